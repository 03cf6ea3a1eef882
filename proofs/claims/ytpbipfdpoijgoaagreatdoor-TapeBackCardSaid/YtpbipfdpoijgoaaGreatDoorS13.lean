/- A verified symbolic run of functions, part 13: lemmas, no claim of their own. -/
import Derived.Test.YtpbipfdpoijgoaaGreatDoorS12
namespace Go.Sx
open U
theorem lastTo_lt (g : Pl → Int) (p : List Pl) (fr : Int) : ∀ n, 0 < n → lastTo g p fr n < n
  | n + 1, _ => by
    simp only [lastTo]
    split
    · omega
    · cases n with
      | zero => exact Nat.zero_lt_one
      | succ n => have := lastTo_lt g p fr (n + 1) (by omega); omega
theorem lastTo_le {g : Pl → Int} {p : List Pl} {fr : Int} (h : g (p.getD 0 pl0) ≤ fr) : ∀ n, g (p.getD (lastTo g p fr n) pl0) ≤ fr
  | 0 => h
  | n + 1 => by
    simp only [lastTo]
    split
    · assumption
    · exact lastTo_le h n
theorem fn175 (p : List Pl) (n : Int) (m : List (List UInt8 × Rl)) (fr : Int) (hp : p.length ≤ 1000000) : Fn P1 gl1 175 [lsV p n m, iV fr, .one (.fn 194 [] [])] (.val (iV (lastTo begP p fr p.length))) true := by
  refine Fn.flat ?_ rfl
  refine fn_of false [] [fb194] hLastH 3 Proofs.Tryz.f175 trivial ⟨⟨by kernel_rfl, by kernel_rfl, _, rfl, by kernel_rfl⟩, trivial⟩ (by kernel_rfl) rfl (by kernel_rfl) rfl rfl rfl ?_
  rw [vc175]
  try simp only [splitB_iff, -eq_self]
  refine ⟨⟨0, Nat.zero_le _, rfl, rfl, by simp⟩, fun g hg => ⟨fun hlt => ?_, fun hge => ?_⟩⟩
  · have hlt' : g < p.length := by simpa using hlt
    refine ⟨by omega, fun h => ⟨by simp only [fits]; omega, g + 1, hlt', by omega, by simp, ?_, by simp⟩, fun h => ⟨by simp only [fits]; omega, g + 1, hlt', by omega, by simp, ?_, by simp⟩⟩
    · have h' : begP (p.getD g pl0) ≤ fr := of_decide_eq_true h
      simp only [lastTo]
      rw [if_pos h']
    · have h' : ¬ begP (p.getD g pl0) ≤ fr := of_decide_eq_false h
      simp only [lastTo]
      rw [if_neg h']
  · have hge' : ¬ g < p.length := by simpa using hge
    have : g = p.length := by have : g ≤ p.length := hg
                              omega
    subst this
    exact ⟨rfl, trivial⟩
theorem fn175b (p : List Pl) (n : Int) (m : List (List UInt8 × Rl)) (fr : Int) (hp : p.length ≤ 1000000) (hs : ∀ x ∈ p, fits .i64 (sndN x)) : Fn P1 gl1 175 [lsV p n m, iV fr, .one (.fn 130 [] [])] (.val (iV (lastTo sndN p fr p.length))) true := by
  refine Fn.flat ?_ rfl
  refine fn_of false [(130, sp130)] [] hLastH 0 Proofs.Tryz.f175 ⟨so130, trivial⟩ trivial (by kernel_rfl) rfl (by kernel_rfl) rfl rfl rfl ?_
  rw [vc175b]
  try simp only [splitB_iff, -eq_self]
  refine ⟨⟨0, Nat.zero_le _, rfl, rfl, by simp⟩, fun g hg => ⟨fun hlt => ?_, fun hge => ?_⟩⟩
  · have hlt' : g < p.length := by simpa using hlt
    refine ⟨by omega, hs _ (getD_mem hlt'), fun h => ⟨by simp only [fits]; omega, g + 1, hlt', by omega, by simp, ?_, by simp⟩, fun h => ⟨by simp only [fits]; omega, g + 1, hlt', by omega, by simp, ?_, by simp⟩⟩
    · have h' : sndN (p.getD g pl0) ≤ fr := of_decide_eq_true h
      simp only [lastTo]
      rw [if_pos h']
    · have h' : ¬ sndN (p.getD g pl0) ≤ fr := of_decide_eq_false h
      simp only [lastTo]
      rw [if_neg h']
  · have hge' : ¬ g < p.length := by simpa using hge
    have : g = p.length := by have : g ≤ p.length := hg
                              omega
    subst this
    exact ⟨rfl, trivial⟩
theorem so175_ : SpecOk P1 gl1 175 sp175 := by
  intro vs ps r h hp
  simp only [sp175] at h
  split at h
  · split at h
    · rename_i e; subst e; cases h
      exact fn175 _ _ _ _ (hp _ (.head _))
    · split at h
      · rename_i e; subst e; cases h
        exact fn175b _ _ _ _ (hp _ (.head _)) (hp _ (.tail _ (.head _)))
      · cases h
  · cases h
theorem so175 : Sp1 175 sp175 := ⟨so175_, Proofs.Tryz.f175, _, by kernel_rfl, rfl, by kernel_rfl⟩
theorem fn177 (nm : List UInt8) (R : List Rl) (hR : R.length ≤ 1000000000) : Fn P1 gl1 177 [.one (.str nm), .one (.ref (.sl rlT) R)] (.val (iV (if idxN nm R < R.length then (idxN nm R : Int) else -1))) true := by
  refine Fn.flat ?_ rfl
  refine fn_of false [] [fb178, fb170] h129 3 Proofs.Tryz.f177 trivial ⟨⟨by kernel_rfl, by kernel_rfl, _, rfl, by kernel_rfl⟩, ⟨by kernel_rfl, by kernel_rfl, _, rfl, by kernel_rfl⟩, trivial⟩ (by kernel_rfl) rfl (by kernel_rfl) rfl rfl rfl ?_
  rw [vc177]
  try simp only [splitB_iff, -eq_self]
  refine ⟨⟨0, Nat.zero_le _, rfl, rfl, by simp⟩, fun g hg => ⟨fun hlt => ?_, fun hge => ?_⟩⟩
  · have hlt' : g < R.length := by simpa using hlt
    refine ⟨by omega, fun h => ⟨?_, trivial⟩, fun h => ⟨by simp only [fits]; omega, g + 1, ?_, by omega, by simp, by simp⟩⟩
    · have h1 := idxN_at hlt' (by simpa using h)
      have h2 : g ≤ idxN nm R := hg
      have e : idxN nm R = g := by omega
      rw [e, if_pos hlt']
    · exact idxN_next hg hlt' (by simpa using h)
  · have hge' : ¬ g < R.length := by simpa using hge
    have h2 : g ≤ idxN nm R := hg
    rw [if_neg (by omega)]
    exact ⟨rfl, trivial⟩
theorem so177_ : SpecOk P1 gl1 177 sp177 := by
  intro vs ps r h hp
  simp only [sp177] at h
  split at h
  · cases h; exact fn177 _ _ (hp _ (.head _))
  · cases h
theorem so177 : Sp1 177 sp177 := ⟨so177_, Proofs.Tryz.f177, _, by kernel_rfl, rfl, by kernel_rfl⟩
theorem rs_at {R : List Rl} (h : chkRs R = 0) : R.length ≤ 8 ∧ ∀ r ∈ R, ReelOk r.1 r.2.1 r.2.2 := by
  unfold chkRs at h
  split at h
  · cases h
  · refine ⟨by omega, fun r hr => ?_⟩
    obtain ⟨i, hi, rfl⟩ := List.mem_iff_getElem.1 hr
    have key : ∀ n, upTo (chkRl R) n = 0 → ∀ j, j < n → chkRl R j = 0 := by
      intro n
      induction n with
      | zero => intro _ j hj; omega
      | succ n ih =>
        intro h0 j hj
        simp only [upTo] at h0
        split at h0
        · rename_i h1
          by_cases e : j = n
          · subst e; exact h0
          · exact ih h1 j (by omega)
        · rename_i h1; exact absurd h0 h1
    have h2 := (first_zero_iff _).1 (key _ h i hi) _ (List.mem_cons_self)
    rw [getD_of hi] at h2
    exact checkReel_zero.1 h2
theorem chkE_ok {R : List Rl} {x : Ed} {b : Option Ed} (h : chkE R x b = 0) : idxN x.1 R < R.length ∧ (rlOf R x.1).2.1 ≤ x.2.1 ∧ x.2.1 < x.2.2.1 ∧ x.2.2.1 ≤ endR (rlOf R x.1) ∧ (0 ≤ x.2.2.2.1 ∧ x.2.2.2.1 ≤ x.2.2.1 - x.2.1) ∧ (-100 ≤ x.2.2.2.2 ∧ x.2.2.2.2 ≤ 100) := by
  unfold chkE at h
  split at h
  · cases h
  · split at h
    · cases h
    · split at h
      · rename_i h1; exact absurd h h1
      · rename_i h1 h2 h3
        have hp := (first_zero_iff _).1 (show prs x = 0 from Classical.byContradiction h3)
        have p1 := within_zero.1 (hp _ (List.mem_cons_self))
        have p2 := within_zero.1 (hp _ (List.mem_cons_of_mem _ List.mem_cons_self))
        exact ⟨by omega, by omega, by omega, by omega, p1, p2⟩
theorem fn129 (R : List Rl) (L : List Ed) (i : Nat) (hR : chkRs R = 0) (hi : i < L.length) (hL : L.length ≤ 1000000) (hb : 0 < i → chkEd R L (i - 1) = 0) : Fn P1 gl1 129 [.one (.sl rlT R), .one (.sl edT L), iV i] (.val (iV (chkEd R L i))) true := by
  refine Fn.flat ?_ rfl
  refine fn_of false [(112, sp112), (158, sp158), (109, sp109), (106, sp106), (107, sp107), (177, sp177)] [] h0 0 Proofs.Tryz.f129 ⟨so112, so158, so109, so106, so107, so177, trivial⟩ trivial (by kernel_rfl) rfl (by kernel_rfl) rfl rfl rfl ?_
  rw [vc129]
  try simp only [splitB_iff, -eq_self]
  obtain ⟨h8, hro⟩ := rs_at hR
  have hx : L.getD i ([], 0, 0, 0, 0) = L.getD i e0 := rfl
  rw [hx]
  generalize hX : L.getD i e0 = x at *
  have hE : chkEd R L i = chkE R x (if i = 0 then none else some (L.getD (i - 1) e0)) := by unfold chkEd; rw [hX]
  rw [hE]
  have hend : ∀ nm : List UInt8, idxN nm R < R.length → (0 ≤ (rlOf R nm).2.1 ∧ (rlOf R nm).2.1 ≤ 10000000) ∧ 0 ≤ endR (rlOf R nm) ∧ endR (rlOf R nm) ≤ 10000000 := by
    intro nm h
    have hr := hro _ (getD_mem (d := r0) h)
    have h1 := hr.start
    have h2 := hr.fin
    simp only [rlOf, endR]
    omega
  by_cases hk : idxN x.1 R < R.length
  · have hn := hend _ hk
    have hkk : ((idxN x.1 R : Nat) : Int).toNat = idxN x.1 R := by omega
    have hrl : R.getD (idxN x.1 R) ([], 0, []) = rlOf R x.1 := rfl
    rw [if_pos hk, hkk, hrl]
    generalize hrr : rlOf R x.1 = r at *
    refine ⟨by omega, by omega, fun h => ?_, fun _ => ⟨fun _ => by omega, fun _ => by omega, fun _ => ?_, fun h => ?_, fun h => ?_⟩⟩
    · have := of_decide_eq_true h
      omega
    · show fits .i64 (endR r)
      simp only [fits]; omega
    · simp only [bcond_l, Bool.or_eq_true, decide_eq_true_eq] at h
      have hc : x.2.2.1 ≤ x.2.1 ∨ x.2.1 < r.2.1 ∨ endR r < x.2.2.1 := by unfold endR; omega
      unfold chkE
      rw [if_neg (by omega), hrr, if_pos hc]
      exact ⟨rfl, trivial⟩
    · simp only [bcond_l, Bool.or_eq_false_iff, decide_eq_false_iff_not] at h
      have hc : ¬ (x.2.2.1 ≤ x.2.1 ∨ x.2.1 < r.2.1 ∨ endR r < x.2.2.1) := by unfold endR; omega
      have hchk : ∀ b, chkE R x b = if prs x ≠ 0 then prs x else match b with
          | none => whenE (decide (x ≠ (x.1, x.2.1, x.2.2.1, 0, 0))) 21
          | some b => whenE (decide (endR (rlOf R b.1) < b.2.2.1 + x.2.2.2.1)) 16 := by
        intro b
        conv => lhs; unfold chkE
        rw [if_neg (by omega), hrr, if_neg hc]
        all_goals (cases b <;> rfl)
      have hp : first [within x.2.2.2.1 0 (x.2.2.1 - x.2.1), within x.2.2.2.2 (-100) 100] = prs x := rfl
      rw [hp]
      refine ⟨by simp only [fits]; omega, by decide, fun h2 => ⟨?_, trivial⟩, fun h2 => ⟨fun h3 => ⟨?_, trivial⟩, fun h3 => ?_⟩⟩
      · rw [hchk, if_pos (by simpa using h2)]
      · have i0 : i = 0 := by have : (i : Int) = 0 := by simpa using h3
                              omega
        rw [hchk, if_neg (show ¬ prs x ≠ 0 by simpa using h2), if_pos i0]
        dsimp only
        congr 1
        rw [Bool.eq_iff_iff, Bool.not_eq_true', decide_eq_true_eq, ← Bool.not_eq_true, eqT_key rfl]
      · have i0 : i ≠ 0 := by have : ¬ (i : Int) = 0 := by simpa using h3
                              omega
        have e1 : ((i : Int) - 1).toNat = i - 1 := by omega
        have hy : L.getD (i - 1) ([], 0, 0, 0, 0) = L.getD (i - 1) e0 := rfl
        rw [hchk, if_neg (show ¬ prs x ≠ 0 by simpa using h2), if_neg i0, e1, hy]
        have hok := chkE_ok (hb (by omega))
        generalize L.getD (i - 1) e0 = y at *
        have hny := hend _ hok.1
        have hky : ((idxN y.1 R : Nat) : Int).toNat = idxN y.1 R := by omega
        have hrly : R.getD (idxN y.1 R) ([], 0, []) = rlOf R y.1 := rfl
        have hpz := (first_zero_iff _).1 (show prs x = 0 by simpa using h2)
        have p1 := within_zero.1 (hpz _ (List.mem_cons_self))
        rw [if_pos hok.1, hky, hrly]
        refine ⟨by simp only [fits]; omega, by omega, by simp only [fits]; omega, by omega, by omega, ?_, rfl, trivial⟩
        show fits .i64 (endR (rlOf R y.1))
        simp only [fits]; omega
  · rw [if_neg hk]
    refine ⟨by omega, by omega, fun _ => ⟨?_, trivial⟩, fun h => ?_⟩
    · unfold chkE
      rw [if_pos (by omega)]
    · have := of_decide_eq_false h
      omega
theorem fn131 (p : List Pl) (n : Int) (m : List (List UInt8 × Rl)) (i : Nat) (hi : i < p.length) (hp : ∀ x ∈ p, fits .i64 (sndN x)) (hl : p.length ≤ 1000000) : Fn P1 gl1 131 [lsV p n m, iV i] (.val (.agg [.one (.int .i64 (heardN p n i).1), .one (.int .i64 (heardN p n i).2)])) true := by
  refine Fn.flat ?_ rfl
  refine fn_of false [(130, sp130)] [] h0 0 Proofs.Tryz.f131 ⟨so130, trivial⟩ trivial (by kernel_rfl) rfl (by kernel_rfl) rfl rfl rfl ?_
  rw [vc131]
  try simp only [splitB_iff, -eq_self]
  have e1 : ((i : Int) + 1).toNat = i + 1 := by omega
  have f1 : ∀ j, j < p.length → fits .i64 (sndN (p.getD j pl0)) := fun j hj => hp _ (getD_mem hj)
  refine ⟨by omega, f1 i hi, by simp only [fits]; omega, fun h => ?_, fun h => ?_⟩
  · have h' : i + 1 < p.length := by have : (i : Int) + 1 < (p.length : Int) := by simpa using h
                                     omega
    rw [e1]
    refine ⟨by simp only [fits]; omega, by omega, f1 (i + 1) h', rfl, ?_, trivial⟩
    unfold heardN
    rw [if_pos h']
    rfl
  · have h' : ¬ i + 1 < p.length := by have : ¬ (i : Int) + 1 < (p.length : Int) := by simpa using h
                                       omega
    refine ⟨rfl, ?_, trivial⟩
    unfold heardN
    rw [if_neg h']
theorem fn124 (p : List Pl) (n : Int) (m : List (List UInt8 × Rl)) (fr : Int) (hp : PlsOk p) (hf : 0 ≤ fr ∧ fr ≤ 100000) : Fn P1 gl1 124 [lsV p n m, iV fr] (.val (tkV (soundN p fr))) true := by
  refine Fn.flat ?_ rfl
  refine fn_of false [(175, sp175)] [] h0 0 Proofs.Tryz.f124 ⟨so175, trivial⟩ trivial (by kernel_rfl) rfl (by kernel_rfl) rfl rfl rfl ?_
  rw [vc124]
  try simp only [splitB_iff, -eq_self]
  obtain ⟨h0, h16, hx, _, _⟩ := hp
  have hl := lastTo_lt sndN p fr p.length h0
  have hk := hx _ (getD_mem (d := pl0) hl)
  refine ⟨by omega, fun x h => ?_, by omega, ?_, ?_, rfl, rfl, rfl, rfl, trivial⟩
  · have := hx x h
    simp only [fits, sndN]; omega
  · show fits .i64 ((p.getD (lastTo sndN p fr p.length) pl0).1.2.1 + fr)
    simp only [fits]; omega
  · show fits .i64 ((p.getD (lastTo sndN p fr p.length) pl0).1.2.1 + fr - (p.getD (lastTo sndN p fr p.length) pl0).2)
    simp only [fits]; omega
theorem fn155 (p : List Pl) (n : Int) (m : List (List UInt8 × Rl)) (fr : Int) (hp : PlsOk p) (hf : 0 ≤ fr ∧ fr ≤ 100000) : Fn P1 gl1 155 [lsV p n m, iV fr] (.val (.one (.sl tkT (takesN p fr)))) false := by
  refine fn_of false [(195, sp195), (175, sp175)] [] h0 0 Proofs.Tryz.f155 ⟨so195, so175, trivial⟩ trivial (by kernel_rfl) rfl (by kernel_rfl) rfl rfl rfl ?_
  rw [vc155]
  try simp only [splitB_iff, -eq_self]
  obtain ⟨h0, h16, hx, hb0, hf0⟩ := hp
  have hl := lastTo_lt begP p fr p.length h0
  have hle : begP (p.getD (lastTo begP p fr p.length) pl0) ≤ fr := lastTo_le (by show (p.getD 0 pl0).2 ≤ fr; omega) _
  have hk := hx _ (getD_mem (d := pl0) hl)
  have hT : takesN p fr = takesE (p.getD (lastTo begP p fr p.length) pl0).1 (p.getD (lastTo begP p fr p.length - 1) pl0).1 (fr - (p.getD (lastTo begP p fr p.length) pl0).2) := rfl
  rw [hT]
  generalize lastTo begP p fr p.length = k at *
  change (p.getD k pl0).2 ≤ fr at hle
  change _ ∧ _ ∧ fits .i64 (fr - (p.getD k pl0).2) ∧ _
  refine ⟨by omega, by omega, by simp only [fits]; omega, fun h => ?_, fun h => ?_⟩
  · have h' : (p.getD k pl0).1.2.2.2.1 ≤ fr - (p.getD k pl0).2 := of_decide_eq_true h
    refine ⟨?_, ?_, trivial⟩
    · show fits .i64 ((p.getD k pl0).1.2.1 + (fr - (p.getD k pl0).2))
      simp only [fits]; omega
    · unfold takesE
      rw [if_pos h']
      rfl
  · have h' : ¬ (p.getD k pl0).1.2.2.2.1 ≤ fr - (p.getD k pl0).2 := of_decide_eq_false h
    have hk1 : 0 < k := by
      apply Nat.pos_of_ne_zero
      rintro rfl
      omega
    have e1 : ((k : Int) - 1).toNat = k - 1 := by omega
    have hb := hx _ (getD_mem (d := pl0) (show k - 1 < p.length by omega))
    rw [e1, show ((([], 0, 0, 0, 0), 0) : Pl) = pl0 from rfl]
    unfold takesE
    rw [if_neg h']
    refine ⟨?_, ?_, ?_, ?_, ?_, ?_, ?_, ?_, ?_, ?_, ?_, ?_, ?_, ?_, ?_⟩ <;> first | omega | (simp only [fits]; omega) | trivial | skip
theorem so129_ : SpecOk P1 gl1 129 sp129 := by
  intro vs ps r h hp
  simp only [sp129] at h
  split at h
  · cases h
    have e := (hp _ (.tail _ (.head _)))
    have := fn129 _ _ _ (hp _ (.head _)) (hp _ (.tail _ (.tail _ (.head _)))) (hp _ (.tail _ (.tail _ (.tail _ (.head _))))) (hp _ (.tail _ (.tail _ (.tail _ (.tail _ (.head _))))))
    rwa [e] at this
  · cases h
theorem so129 : Sp1 129 sp129 := ⟨so129_, Proofs.Tryz.f129, _, by kernel_rfl, rfl, by kernel_rfl⟩
theorem so131_ : SpecOk P1 gl1 131 sp131 := by
  intro vs ps r h hp
  simp only [sp131] at h
  split at h
  · cases h
    rename_i p n m i
    have e := (hp _ (.head _))
    have := fn131 p n m _ (hp _ (.tail _ (.head _))) (hp _ (.tail _ (.tail _ (.head _)))) (hp _ (.tail _ (.tail _ (.tail _ (.head _)))))
    rwa [e] at this
  · cases h
theorem so131 : Sp1 131 sp131 := ⟨so131_, Proofs.Tryz.f131, _, by kernel_rfl, rfl, by kernel_rfl⟩
theorem so124_ : SpecOk P1 gl1 124 sp124 := by
  intro vs ps r h hp
  simp only [sp124] at h
  split at h
  · cases h
    exact fn124 _ _ _ _ (hp _ (.head _)) (hp _ (.tail _ (.head _)))
  · cases h
theorem so124 : Sp1 124 sp124 := ⟨so124_, Proofs.Tryz.f124, _, by kernel_rfl, rfl, by kernel_rfl⟩
theorem so155_ : SpecOk P1 gl1 155 sp155 := by
  intro vs ps r h hp
  simp only [sp155] at h
  split at h
  · cases h
    exact fn155 _ _ _ _ (hp _ (.head _)) (hp _ (.tail _ (.head _)))
  · cases h
theorem so155 : Sp1 155 sp155 := ⟨so155_, Proofs.Tryz.f155, _, by kernel_rfl, rfl, by kernel_rfl⟩
end Go.Sx

namespace Go.Sx.U
abbrev Mp := List (List UInt8 × Rl)
def tk0 : Tk := ([], 0, 0, 0)
def ls (L : List Ed) : List Pl := plTo L L.length
def lenL (L : List Ed) : Int := begN L L.length
def rlM (m : Mp) (nm : List UInt8) : Rl := (U.mapGet .str (.pair .str (.pair (.int .i64) (.sl (.int .i64)))) m nm).getD ([], 0, [])
def ordE (p : List Pl) (n : Int) (i : Nat) : Int := whenE (decide (0 < i ∧ (sndN (p.getD i pl0) ≤ sndN (p.getD (i - 1) pl0) ∨ n ≤ sndN (p.getD i pl0)))) 11
def spE (m : Mp) (p : List Pl) (n : Int) (i : Nat) : Int := whenE (decide ((p.getD i pl0).1.2.1 + (heardN p n i).1 - (p.getD i pl0).2 < (rlM m (p.getD i pl0).1.1).2.1 ∨ endR (rlM m (p.getD i pl0).1.1) < (p.getD i pl0).1.2.1 + (heardN p n i).2 - (p.getD i pl0).2)) 16
def chkEds (R : List Rl) (L : List Ed) : Int :=
  if chkRs R ≠ 0 then chkRs R else
  if 16 < L.length then 5 else
  if upTo (chkEd R L) L.length ≠ 0 then upTo (chkEd R L) L.length else
  if 1024 < lenL L then 4 else
  if upTo (ordE (ls L) (lenL L)) L.length ≠ 0 then 11 else
  upTo (spE (mapR R R.length) (ls L) (lenL L)) L.length
def startsN (R : List Rl) (L : List Ed) : List Int := if chkEds R L = 0 then (ls L).map fun x => x.2 else []
def lenN (R : List Rl) (L : List Ed) : Int := if chkEds R L = 0 then lenL L else 0
def soundsN (R : List Rl) (L : List Ed) : List Tk := if chkEds R L = 0 then (List.range (lenL L).toNat).map (fun t : Nat => soundN (ls L) t) else []
def confN (R : List Rl) (L : List Ed) : List (List Tk) := if chkEds R L = 0 then (List.range (lenL L).toNat).map (fun t : Nat => takesN (ls L) t) else []
def mixTo (m : Mp) (ts : List Tk) : Nat → Int × Int
  | 0 => (0, 1)
  | j + 1 => ((mixTo m ts j).1 * (ts.getD j tk0).2.2.2 + (rlM m (ts.getD j tk0).1).2.2.getD ((ts.getD j tk0).2.1 - (rlM m (ts.getD j tk0).1).2.1).toNat 0 * (ts.getD j tk0).2.2.1 * (mixTo m ts j).2, (mixTo m ts j).2 * (ts.getD j tk0).2.2.2)
def mixN (m : Mp) (ts : List Tk) : Int := (2 * (mixTo m ts ts.length).1 + (mixTo m ts ts.length).2) / (2 * (mixTo m ts ts.length).2)
def playN (R : List Rl) (L : List Ed) : List Int := if chkEds R L = 0 then (List.range (lenL L).toNat).map (fun t : Nat => mixN (mapR R R.length) (takesN (ls L) t)) else []
def chkCh (R : List Rl) (L : List Ed) (i by_ least : Int) : Int :=
  if chkEds R L ≠ 0 then chkEds R L else first [whenE (decide (i < 0 ∨ (L.length : Int) ≤ i)) 10, within by_ (-10000000) 10000000, whenE (decide (i < least)) 21]
def trimL (L : List Ed) (i : Nat) (by_ : Int) : List Ed := L.set i ((L.getD i e0).1, (L.getD i e0).2.1, (L.getD i e0).2.2.1 + by_, (L.getD i e0).2.2.2.1, (L.getD i e0).2.2.2.2)
def frontL (L : List Ed) (i : Nat) (by_ : Int) : List Ed := L.set i ((L.getD i e0).1, (L.getD i e0).2.1 + by_, (L.getD i e0).2.2.1, (L.getD i e0).2.2.2.1, (L.getD i e0).2.2.2.2)
def rollL (L : List Ed) (i : Nat) (by_ : Int) : List Ed := frontL (trimL L (i - 1) by_) i by_
def slipL (L : List Ed) (i : Nat) (by_ : Int) : List Ed := trimL (frontL L i by_) i by_
def chgE (R : List Rl) (L : List Ed) (i by_ least : Int) (g : List Ed → Nat → Int → List Ed) : Int := if chkCh R L i by_ least ≠ 0 then chkCh R L i by_ least else chkEds R (g L i.toNat by_)
def chgL (R : List Rl) (L : List Ed) (i by_ least : Int) (g : List Ed → Nat → Int → List Ed) : List Ed := if chgE R L i by_ least g = 0 then g L i.toNat by_ else []
end Go.Sx.U
namespace Go.Sx
open U
def lsAt (s : St) (t : Nat) : Option (List Pl × Int × Mp) := match ptrId s t with
  | some b => match lookO s.ob b with
    | some (.box [.one (.sl (.pair (.pair .str (.pair (.int .i64) (.pair (.int .i64) (.pair (.int .i64) (.int .i64))))) (.int .i64)) p), .one (.int .i64 n), .one (.mp false true .str (.pair .str (.pair (.int .i64) (.sl (.int .i64)))) m)]) => some (p, n, m)
    | _ => none
  | none => none
def h43 : Hints := ⟨fun f k s => match f, k with
  | 43, 5 => match listAs s 0 rlT, listAs s 1 edT with
    | some R, some L => some ⟨Nat, fun i => s.at [0, 1, 27] [tI 28 i], fun i => i ≤ List.length L ∧ upTo (chkEd R L) i = 0, fun i => List.length L - i⟩
    | _, _ => none
  | 43, 15 => match lsAt s 8 with
    | some (p, n, _) => some ⟨Nat, fun i => s.at [0, 1, 8, 46, 47] [tI 48 i], fun i => i ≤ List.length p ∧ upTo (ordE p n) i = 0, fun i => List.length p - i⟩
    | _ => none
  | 43, 21 => match lsAt s 8 with
    | some (p, n, m) => some ⟨Nat, fun i => s.at [0, 1, 8, 76, 77] [tI 78 i], fun i => i ≤ List.length p ∧ upTo (spE m p n) i = 0, fun i => List.length p - i⟩
    | _ => none
  | _, _ => none, 0⟩
def h121 : Hints := ⟨fun f k s => match f, k with
  | 121, 3 => hMapI plT (fun x => x.2) 8 9 10 5 [1] s
  | _, _ => none, 0⟩
def h36 : Hints := ⟨fun f k s => match f, k with
  | 36, 7 => match lsAt s 7 with
    | some (p, n, _) => some ⟨Nat, fun i => ⟨[tI 21 i, (8, .val (.one (.own s.nx)))] ++ keepT [0, 1, 7, 20] s.tm, (s.nx, some (.row tkT ((List.range i).map (fun t : Nat => soundN p t)))) :: lessO s [8], s.nx + 1, s.lr⟩, fun i => i ≤ n.toNat, fun i => n.toNat - i⟩
    | _ => none
  | _, _ => none, 0⟩
def outB : List (Nat × Option AObj) → Option (Nat × List Nat)
  | [] => none
  | (i, some (.box [.one .nils])) :: _ => some (i, [])
  | (i, some (.box [.one (.own j)])) :: _ => some (i, [j])
  | _ :: r => outB r
def hFrames (u : Ty) (g : List Pl → Mp → Nat → u.T) (s : St) : Option LInv := match lsAt s 1, outB (liveO [] s.ob) with
  | some (p, n, m), some (b, js) => some ⟨Nat, fun i => ⟨tI 6 i :: keepT [0, 1, 5] s.tm, (b, some (.box [.one (.own s.nx)])) :: (s.nx, some (.row u ((List.range i).map (g p m)))) :: (liveO [] s.ob).filter (fun x => x.1 != b && !(js.contains x.1)), s.nx + 1, s.lr⟩, fun i => i ≤ n.toNat, fun i => n.toNat - i⟩
  | _, _ => none
def h35 : Hints := ⟨fun f k s => match f, k with
  | 174, 1 => hFrames (.sl tkT) (fun p _ t => takesN p t) s
  | _, _ => none, 0⟩
def h37 : Hints := ⟨fun f k s => match f, k with
  | 174, 1 => hFrames (.int .i64) (fun p m t => mixN m (takesN p t)) s
  | 37, 10 => match lsAt s 7, listAs s 29 tkT with
    | some (_, _, m), some ts => some ⟨Nat, fun j => s.at [7, 8, 29, 30] [tI 31 j, tI 11 (mixTo m ts j).1, tI 12 (mixTo m ts j).2], fun j => j ≤ List.length ts, fun j => List.length ts - j⟩
    | _, _ => none
  | _, _ => none, 0⟩
@[reducible] noncomputable def fb123 : Nat × Func := (123, Proofs.Tryz.f123)
@[reducible] noncomputable def fb174 : Nat × Func := (174, Proofs.Tryz.f174)
@[reducible] noncomputable def fb122 : Nat × Func := (122, Proofs.Tryz.f122)
@[reducible] noncomputable def fb132 : Nat × Func := (132, Proofs.Tryz.f132)
@[reducible] noncomputable def fb134 : Nat × Func := (134, Proofs.Tryz.f134)
@[reducible] noncomputable def fb180 : Nat × Func := (180, Proofs.Tryz.f180)
@[reducible] noncomputable def fb156 : Nat × Func := (156, Proofs.Tryz.f156)
end Go.Sx
namespace Go.Sx
open U
def sp43 : FSpec := ⟨fun vs => match vs with
  | [.one (.sl (.pair .str (.pair (.int .i64) (.sl (.int .i64)))) R), .one (.sl (.pair .str (.pair (.int .i64) (.pair (.int .i64) (.pair (.int .i64) (.int .i64))))) L)] => some ([List.length R ≤ 1000000000, ∀ r ∈ (show List Rl from R), List.length r.2.2 ≤ 1000000, List.length L ≤ 1000000000], .val (iV (chkEds R L)))
  | _ => none, true⟩
def sp121 : FSpec := ⟨fun vs => match vs with
  | [.one (.sl (.pair (.pair .str (.pair (.int .i64) (.pair (.int .i64) (.pair (.int .i64) (.int .i64))))) (.int .i64)) p), .one (.fn 122 [] [])] => some ([List.length p ≤ 1000000], .val (.one (.frs (.int .i64) (List.map (fun x : Pl => x.2) p))))
  | _ => none, true⟩
def sp33 : FSpec := ⟨fun vs => match vs with
  | [.one (.sl (.pair .str (.pair (.int .i64) (.sl (.int .i64)))) R), .one (.sl (.pair .str (.pair (.int .i64) (.pair (.int .i64) (.pair (.int .i64) (.int .i64))))) L)] => some ([List.length R ≤ 1000000000, ∀ r ∈ (show List Rl from R), List.length r.2.2 ≤ 1000000, List.length L ≤ 1000000000], .tup [.one (.frs (.int .i64) (startsN R L)), iV (lenN R L), iV (chkEds R L)])
  | _ => none, true⟩
def sp36 : FSpec := ⟨fun vs => match vs with
  | [.one (.sl (.pair .str (.pair (.int .i64) (.sl (.int .i64)))) R), .one (.sl (.pair .str (.pair (.int .i64) (.pair (.int .i64) (.pair (.int .i64) (.int .i64))))) L)] => some ([List.length R ≤ 1000000000, ∀ r ∈ (show List Rl from R), List.length r.2.2 ≤ 1000000, List.length L ≤ 1000000000], .tup [.one (.frs tkT (soundsN R L)), iV (chkEds R L)])
  | _ => none, true⟩
def sp35 : FSpec := ⟨fun vs => match vs with
  | [.one (.sl (.pair .str (.pair (.int .i64) (.sl (.int .i64)))) R), .one (.sl (.pair .str (.pair (.int .i64) (.pair (.int .i64) (.pair (.int .i64) (.int .i64))))) L)] => some ([List.length R ≤ 1000000000, ∀ r ∈ (show List Rl from R), List.length r.2.2 ≤ 1000000, List.length L ≤ 1000000000], .tup [.one (.frs (.sl tkT) (confN R L)), iV (chkEds R L)])
  | _ => none, false⟩
def sp37 : FSpec := ⟨fun vs => match vs with
  | [.one (.sl (.pair .str (.pair (.int .i64) (.sl (.int .i64)))) R), .one (.sl (.pair .str (.pair (.int .i64) (.pair (.int .i64) (.pair (.int .i64) (.int .i64))))) L)] => some ([List.length R ≤ 1000000000, ∀ r ∈ (show List Rl from R), List.length r.2.2 ≤ 1000000, List.length L ≤ 1000000000], .tup [.one (.frs (.int .i64) (playN R L)), iV (chkEds R L)])
  | _ => none, true⟩
def sp50 : FSpec := ⟨fun vs => match vs with
  | [.one (.sl (.pair .str (.pair (.int .i64) (.sl (.int .i64)))) R), .one (.sl (.pair .str (.pair (.int .i64) (.pair (.int .i64) (.pair (.int .i64) (.int .i64))))) L), .one (.int .i64 i), .one (.int .i64 by_)] => some ([List.length R ≤ 1000000000, ∀ r ∈ (show List Rl from R), List.length r.2.2 ≤ 1000000, List.length L ≤ 1000000000], .tup [.one (.frs edT (chgL R L i by_ 1 rollL)), iV (chgE R L i by_ 1 rollL)])
  | _ => none, true⟩
end Go.Sx

namespace Go.Sx
open U
theorem upTo_zero {f : Nat → Int} : ∀ {n : Nat}, upTo f n = 0 ↔ ∀ i, i < n → f i = 0
  | 0 => by simp [upTo]
  | n + 1 => by
    have ih := upTo_zero (f := f) (n := n)
    simp only [upTo]
    constructor
    · intro h i hi
      split at h
      · rename_i h0
        by_cases e : i = n
        · subst e; exact h
        · exact ih.1 h0 i (by omega)
      · rename_i h0; exact absurd h h0
    · intro h
      rw [if_pos (ih.2 fun i hi => h i (by omega))]
      exact h n (by omega)
theorem upTo_eq {f : Nat → Int} {g n : Nat} (h0 : upTo f g = 0) (hf : f g ≠ 0) (hg : g < n) : upTo f n = f g := by
  have h1 : upTo f (g + 1) = f g := by simp only [upTo]; rw [if_pos h0]
  have := upTo_stay (f := f) (i := g + 1) (by rw [h1]; exact hf) (n - (g + 1))
  rw [show g + 1 + (n - (g + 1)) = n by omega, h1] at this
  exact this
theorem upTo_succ {f : Nat → Int} {g : Nat} (h0 : upTo f g = 0) (hf : f g = 0) : upTo f (g + 1) = 0 := by
  simp only [upTo]; rw [if_pos h0]; exact hf
theorem ls_len (L : List Ed) : (ls L).length = L.length := plTo_len L _
theorem plTo_get (L : List Ed) : ∀ (n i : Nat), i < n → (plTo L n).getD i pl0 = (L.getD i e0, begN L i)
  | 0, _, h => by omega
  | n + 1, i, h => by
    simp only [plTo]
    by_cases e : i = n
    · subst e
      rw [List.getD_eq_getElem?_getD, List.getElem?_append_right (by rw [plTo_len]; omega), plTo_len]
      simp
    · rw [List.getD_eq_getElem?_getD, List.getElem?_append_left (by rw [plTo_len]; omega), ← List.getD_eq_getElem?_getD]
      exact plTo_get L n i (by omega)
theorem ls_get (L : List Ed) {i : Nat} (h : i < L.length) : (ls L).getD i pl0 = (L.getD i e0, begN L i) := plTo_get L _ i h
theorem mem_getD {α : Type} {l : List α} {x : α} (d : α) (h : x ∈ l) : ∃ i, i < l.length ∧ l.getD i d = x := by
  obtain ⟨i, hi, rfl⟩ := List.mem_iff_getElem.1 h
  exact ⟨i, hi, getD_of hi⟩
theorem mapGet_put {t : Ty} : ∀ (l : List (List UInt8 × t.T)) (x : List UInt8) (y : t.T) (z : List UInt8),
    U.mapGet .str t (U.mapPut .str t l x y) z = if x = z then some y else U.mapGet .str t l z
  | [], x, y, z => by
    simp only [U.mapPut, U.mapGet, eqT, beq_iff_eq]
    by_cases h : x = z
    · simp [h]
    · simp [h, Ne.symm h]
  | p :: r, x, y, z => by
    have ih := mapGet_put r x y z
    simp only [U.mapPut, eqT, beq_iff_eq]
    by_cases hx : x = p.1
    · rw [if_pos hx]
      simp only [U.mapGet, eqT, beq_iff_eq]
      by_cases h : z = p.1
      · simp [h, hx]
      · rw [if_neg h, if_neg (by rw [hx]; exact Ne.symm h), if_neg h]
    · rw [if_neg hx]
      simp only [U.mapGet, eqT, beq_iff_eq]
      by_cases h : z = p.1
      · rw [if_pos h, if_pos h, if_neg (by rw [h]; exact hx)]
      · rw [if_neg h, if_neg h]; exact ih
def NoDup (R : List Rl) : Prop := ∀ i j, i < j → j < R.length → (R.getD i r0).1 ≠ (R.getD j r0).1
theorem rs_nodup {R : List Rl} (h : chkRs R = 0) : NoDup R := by
  intro i j hij hj e
  have h8 := (rs_at h).1
  unfold chkRs at h
  rw [if_neg (by omega)] at h
  have h1 := (first_zero_iff _).1 (upTo_zero.1 h j hj) _ (List.mem_cons_of_mem _ List.mem_cons_self)
  have h2 := (whenE_zero (by decide)).1 h1
  unfold dupR at h2
  have h3 := of_decide_eq_false h2
  have hT : (R.take j).length = j := by rw [List.length_take]; omega
  have hg : (R.take j).getD i r0 = R.getD i r0 := by
    rw [List.getD_eq_getElem?_getD, List.getElem?_take, if_pos hij, ← List.getD_eq_getElem?_getD]
  have := idxN_at (nm := (R.getD j r0).1) (R := R.take j) (j := i) (d := r0) (by omega) (by rw [hg]; exact e)
  omega
theorem mapR_get {R : List Rl} (hd : NoDup R) (nm : List UInt8) : ∀ n, n ≤ R.length →
    (∀ i, i < n → (R.getD i r0).1 = nm → U.mapGet .str (.pair .str (.pair (.int .i64) (.sl (.int .i64)))) (mapR R n) nm = some (R.getD i r0)) ∧
    ((∀ i, i < n → (R.getD i r0).1 ≠ nm) → U.mapGet .str (.pair .str (.pair (.int .i64) (.sl (.int .i64)))) (mapR R n) nm = none)
  | 0, _ => ⟨fun i h => by omega, fun _ => rfl⟩
  | n + 1, hn => by
    obtain ⟨ih1, ih2⟩ := mapR_get hd nm n (by omega)
    simp only [mapR]
    constructor
    · intro i hi e
      refine (mapGet_put _ _ _ _).trans ?_
      by_cases h : i = n
      · subst h; rw [if_pos e]
      · rw [if_neg (fun h2 => hd i n (by omega) (by omega) (e.trans h2.symm))]
        exact ih1 i (by omega) e
    · intro h
      refine (mapGet_put _ _ _ _).trans ?_
      rw [if_neg (h n (by omega))]
      exact ih2 fun i hi => h i (by omega)
theorem idxN_name {R : List Rl} {nm : List UInt8} (h : idxN nm R < R.length) : (rlOf R nm).1 = nm := by
  have h2 := List.findIdx_getElem (w := h)
  simp only [decide_eq_true_eq] at h2
  unfold rlOf
  rw [getD_of h]
  exact h2
theorem mapR_some {R : List Rl} (hd : NoDup R) (nm : List UInt8) : U.mapGet .str (.pair .str (.pair (.int .i64) (.sl (.int .i64)))) (mapR R R.length) nm = if idxN nm R < R.length then some (rlOf R nm) else none := by
  obtain ⟨h1, h2⟩ := mapR_get hd nm R.length (Nat.le_refl _)
  split
  · rename_i h
    exact h1 _ h (idxN_name h)
  · rename_i h
    refine h2 fun i hi e => h ?_
    have := idxN_at (d := r0) hi e
    omega
theorem rlM_eq {R : List Rl} (hd : NoDup R) (nm : List UInt8) : rlM (mapR R R.length) nm = rlOf R nm := by
  unfold rlM
  rw [mapR_some hd]
  split
  · rfl
  · rename_i h
    unfold rlOf
    rw [List.getD_eq_getElem?_getD, List.getElem?_eq_none (by omega)]
    rfl
structure EdOk (R : List Rl) (L : List Ed) (i : Nat) : Prop where
  idx : idxN (L.getD i e0).1 R < R.length
  lo : (rlOf R (L.getD i e0).1).2.1 ≤ (L.getD i e0).2.1
  lt : (L.getD i e0).2.1 < (L.getD i e0).2.2.1
  hi : (L.getD i e0).2.2.1 ≤ endR (rlOf R (L.getD i e0).1)
  fade : 0 ≤ (L.getD i e0).2.2.2.1 ∧ (L.getD i e0).2.2.2.1 ≤ (L.getD i e0).2.2.1 - (L.getD i e0).2.1
  snd : -100 ≤ (L.getD i e0).2.2.2.2 ∧ (L.getD i e0).2.2.2.2 ≤ 100
  first : i = 0 → (L.getD i e0).2.2.2.1 = 0 ∧ (L.getD i e0).2.2.2.2 = 0
  prev : 0 < i → (L.getD (i - 1) e0).2.2.1 + (L.getD i e0).2.2.2.1 ≤ endR (rlOf R (L.getD (i - 1) e0).1)
theorem chkEd_ok {R : List Rl} {L : List Ed} {i : Nat} (h : chkEd R L i = 0) : EdOk R L i := by
  unfold chkEd at h
  obtain ⟨h1, h2, h3, h4, h5, h6⟩ := chkE_ok h
  refine ⟨h1, h2, h3, h4, h5, h6, fun i0 => ?_, fun i0 => ?_⟩
  · subst i0
    simp only [if_true] at h
    unfold chkE at h
    rw [if_neg (by omega), if_neg (by omega)] at h
    split at h
    · rename_i hp; exact absurd h hp
    · have := (whenE_zero (by decide)).1 h
      have := of_decide_eq_false this
      have e := Classical.not_not.1 this
      rw [e]
      exact ⟨rfl, rfl⟩
  · rw [if_neg (by omega)] at h
    unfold chkE at h
    rw [if_neg (by omega), if_neg (by omega)] at h
    split at h
    · rename_i hp; exact absurd h hp
    · have := (whenE_zero (by decide)).1 h
      have := of_decide_eq_false this
      omega
structure ListOk (R : List Rl) (L : List Ed) : Prop where
  rs : chkRs R = 0
  len : L.length ≤ 16
  ed : ∀ i, i < L.length → chkEd R L i = 0
  big : lenL L ≤ 1024
  ord : ∀ i, i < L.length → ordE (ls L) (lenL L) i = 0
  sp : ∀ i, i < L.length → spE (mapR R R.length) (ls L) (lenL L) i = 0
theorem chkEds_zero {R : List Rl} {L : List Ed} : chkEds R L = 0 ↔ ListOk R L := by
  unfold chkEds
  constructor
  · intro h
    by_cases h1 : chkRs R = 0
    · rw [if_neg (by simpa using h1)] at h
      by_cases h2 : 16 < L.length
      · rw [if_pos h2] at h; cases h
      · rw [if_neg h2] at h
        by_cases h3 : upTo (chkEd R L) L.length = 0
        · rw [if_neg (by simpa using h3)] at h
          by_cases h4 : 1024 < lenL L
          · rw [if_pos h4] at h; cases h
          · rw [if_neg h4] at h
            by_cases h5 : upTo (ordE (ls L) (lenL L)) L.length = 0
            · rw [if_neg (by simpa using h5)] at h
              exact ⟨h1, by omega, upTo_zero.1 h3, by omega, upTo_zero.1 h5, upTo_zero.1 h⟩
            · rw [if_pos h5] at h; cases h
        · rw [if_pos h3] at h; exact absurd h h3
    · rw [if_pos h1] at h; exact absurd h h1
  · intro h
    rw [if_neg (by simpa using h.rs), if_neg (by have := h.len; omega), if_neg (by simpa using upTo_zero.2 h.ed), if_neg (by have := h.big; omega), if_neg (by simpa using upTo_zero.2 h.ord)]
    exact upTo_zero.2 h.sp
theorem reel_bd {R : List Rl} (hr : chkRs R = 0) (nm : List UInt8) : (0 ≤ (rlOf R nm).2.1 ∧ (rlOf R nm).2.1 ≤ 10000000) ∧ (rlOf R nm).2.1 ≤ endR (rlOf R nm) ∧ endR (rlOf R nm) ≤ 10000000 ∧ (rlOf R nm).2.2.length ≤ 256 := by
  by_cases h : idxN nm R < R.length
  · have := (rs_at hr).2 _ (getD_mem (d := r0) h)
    have h1 := this.start
    have h2 := this.fin
    have h3 := this.len
    simp only [rlOf, endR] at *
    omega
  · have : rlOf R nm = r0 := by
      unfold rlOf
      rw [List.getD_eq_getElem?_getD, List.getElem?_eq_none (by omega)]; rfl
    rw [this]
    simp only [endR, r0, List.length_nil]
    omega
theorem EdsIn_of {R : List Rl} {L : List Ed} (hr : chkRs R = 0) (hl : L.length ≤ 16) (he : ∀ i, i < L.length → chkEd R L i = 0) : EdsIn L := by
  refine ⟨hl, fun x hx => ?_⟩
  obtain ⟨i, hi, rfl⟩ := mem_getD e0 hx
  have h := chkEd_ok (he i hi)
  have := reel_bd hr (L.getD i e0).1
  have h1 := h.lo
  have h2 := h.lt
  have h3 := h.hi
  omega
theorem begN_lt {L : List Ed} (h : EdsIn L) {i : Nat} (hi : i < L.length) : begN L i < begN L (i + 1) := by
  have := h.2 _ (getD_mem (d := e0) hi)
  simp only [begN]
  omega
theorem begN_mono {L : List Ed} (h : EdsIn L) : ∀ {i j : Nat}, i ≤ j → j ≤ L.length → begN L i ≤ begN L j := by
  intro i j hij hj
  induction j with
  | zero => rw [Nat.le_zero.1 hij]; exact Int.le_refl _
  | succ j ih =>
    by_cases e : i = j + 1
    · subst e; exact Int.le_refl _
    · have := ih (by omega) (by omega)
      have := begN_lt h (i := j) (by omega)
      omega
theorem ListOk.eds {R : List Rl} {L : List Ed} (h : ListOk R L) : EdsIn L := EdsIn_of h.rs h.len h.ed
theorem ListOk.pls {R : List Rl} {L : List Ed} (h : ListOk R L) (hn : 0 < L.length) : PlsOk (ls L) := by
  refine ⟨by rw [ls_len]; exact hn, by rw [ls_len]; exact h.len, fun x hx => ?_, ?_, ?_⟩
  · obtain ⟨i, hi, rfl⟩ := mem_getD pl0 hx
    rw [ls_len] at hi
    rw [ls_get L hi]
    have h1 := chkEd_ok (h.ed i hi)
    have h2 := h.eds.2 _ (getD_mem (d := e0) hi)
    have h3 := begN_bd h.eds i (by omega)
    have h4 := begN_mono h.eds (show i ≤ L.length by omega) (Nat.le_refl _)
    have h5 := h.big
    have h6 := h1.fade
    have h7 := h1.snd
    have h8 := begN_mono h.eds (show i + 1 ≤ L.length by omega) (Nat.le_refl _)
    have h9 : begN L (i + 1) = begN L i + ((L.getD i e0).2.2.1 - (L.getD i e0).2.1) := rfl
    unfold lenL at h5
    dsimp only
    omega
  · rw [ls_get L hn]; rfl
  · rw [ls_get L hn]
    exact ((chkEd_ok (h.ed 0 hn)).first rfl).1
theorem pl_bd {R : List Rl} {L : List Ed} (hr : chkRs R = 0) (hl : L.length ≤ 16) (he : ∀ i, i < L.length → chkEd R L i = 0) (hb : lenL L ≤ 1024) :
    ∀ x ∈ ls L, (0 ≤ x.1.2.1 ∧ x.1.2.1 ≤ 10000000) ∧ (0 ≤ x.1.2.2.1 ∧ x.1.2.2.1 ≤ 10000000) ∧ (0 ≤ x.1.2.2.2.1 ∧ x.1.2.2.2.1 ≤ 1024) ∧ (-100 ≤ x.1.2.2.2.2 ∧ x.1.2.2.2.2 ≤ 100) ∧ (0 ≤ x.2 ∧ x.2 ≤ 1024) := by
  intro x hx
  obtain ⟨i, hi, rfl⟩ := mem_getD pl0 hx
  rw [ls_len] at hi
  rw [ls_get L hi]
  have hE := EdsIn_of hr hl he
  have h1 := chkEd_ok (he i hi)
  have h2 := hE.2 _ (getD_mem (d := e0) hi)
  have h3 := begN_bd hE i (by omega)
  have h4 := begN_mono hE (show i ≤ L.length by omega) (Nat.le_refl _)
  have h6 := h1.fade
  have h7 := h1.snd
  have h8 := begN_mono hE (show i + 1 ≤ L.length by omega) (Nat.le_refl _)
  have h9 : begN L (i + 1) = begN L i + ((L.getD i e0).2.2.1 - (L.getD i e0).2.1) := rfl
  unfold lenL at hb
  dsimp only
  omega
theorem heard_bd {p : List Pl} {n : Int} (hp : ∀ x ∈ p, (-100 ≤ x.1.2.2.2.2 ∧ x.1.2.2.2.2 ≤ 100) ∧ (0 ≤ x.2 ∧ x.2 ≤ 1024)) (hn : 0 ≤ n ∧ n ≤ 1024) {i : Nat} (hi : i < p.length) :
    (-100 ≤ (heardN p n i).1 ∧ (heardN p n i).1 ≤ 2000) ∧ (-100 ≤ (heardN p n i).2 ∧ (heardN p n i).2 ≤ 2000) := by
  have h1 := hp _ (getD_mem (d := pl0) hi)
  unfold heardN sndN
  split
  · rename_i h
    have h2 := hp _ (getD_mem (d := pl0) h)
    dsimp only
    omega
  · dsimp only
    omega
theorem lastTo_gt (g : Pl → Int) (p : List Pl) (fr : Int) : ∀ n j, lastTo g p fr n < j → j < n → fr < g (p.getD j pl0)
  | 0, j, _, h => by omega
  | n + 1, j, h1, h2 => by
    simp only [lastTo] at h1
    split at h1
    · omega
    · rename_i h
      by_cases e : j = n
      · subst e; omega
      · exact lastTo_gt g p fr n j h1 (by omega)
theorem seen_at {R : List Rl} {L : List Ed} (_h : ListOk R L) {t : Int} (h0 : 0 ≤ t) (ht : t < lenL L) :
    ∃ k, k < L.length ∧ lastTo begP (ls L) t (ls L).length = k ∧ begN L k ≤ t ∧ t < begN L (k + 1) := by
  have hn : 0 < L.length := by
    apply Nat.pos_of_ne_zero
    intro e
    unfold lenL at ht
    rw [e] at ht
    simp only [begN] at ht
    omega
  have hl := lastTo_lt begP (ls L) t (ls L).length (by rw [ls_len]; exact hn)
  have hle : begP ((ls L).getD (lastTo begP (ls L) t (ls L).length) pl0) ≤ t := lastTo_le (by rw [ls_get L hn]; exact h0) _
  have hgt := lastTo_gt begP (ls L) t (ls L).length (lastTo begP (ls L) t (ls L).length + 1) (by omega)
  rw [ls_len] at *
  refine ⟨_, hl, rfl, ?_, ?_⟩
  · rw [ls_get L hl] at hle; exact hle
  · by_cases e : lastTo begP (ls L) t L.length + 1 < L.length
    · have := hgt e
      rw [ls_get L e] at this
      exact this
    · have : lastTo begP (ls L) t L.length + 1 = L.length := by omega
      rw [this]; exact ht
structure TkOk (R : List Rl) (x : Tk) : Prop where
  idx : idxN x.1 R < R.length
  lo : (rlOf R x.1).2.1 ≤ x.2.1
  hi : x.2.1 < endR (rlOf R x.1)
  num : 1 ≤ x.2.2.1 ∧ x.2.2.1 ≤ 2000
  den : 1 ≤ x.2.2.2 ∧ x.2.2.2 ≤ 2000
theorem low_bd {n d : Int} (hn : 1 ≤ n ∧ n ≤ 2000) (hd : 1 ≤ d ∧ d ≤ 2000) : (1 ≤ (lowN n d).1 ∧ (lowN n d).1 ≤ 2000) ∧ (1 ≤ (lowN n d).2 ∧ (lowN n d).2 ≤ 2000) := by
  unfold lowN
  have hg : 0 < Nat.gcd n.toNat d.toNat := Nat.gcd_pos_of_pos_left _ (by omega)
  have h1 : (Nat.gcd n.toNat d.toNat : Int) ≤ n := by have := Nat.le_of_dvd (by omega) (Nat.gcd_dvd_left n.toNat d.toNat); omega
  have h2 : (Nat.gcd n.toNat d.toNat : Int) ≤ d := by have := Nat.le_of_dvd (by omega) (Nat.gcd_dvd_right n.toNat d.toNat); omega
  have a1 := Int.ediv_le_self (a := n) (Nat.gcd n.toNat d.toNat : Int) (by omega)
  have a2 := Int.ediv_le_self (a := d) (Nat.gcd n.toNat d.toNat : Int) (by omega)
  have b1 : 1 ≤ n / (Nat.gcd n.toNat d.toNat : Int) := (Int.le_ediv_iff_mul_le (by omega)).2 (by omega)
  have b2 : 1 ≤ d / (Nat.gcd n.toNat d.toNat : Int) := (Int.le_ediv_iff_mul_le (by omega)).2 (by omega)
  dsimp only
  omega
theorem takes_ok {R : List Rl} {L : List Ed} (h : ListOk R L) {t : Int} (h0 : 0 ≤ t) (ht : t < lenL L) :
    (1 ≤ (takesN (ls L) t).length ∧ (takesN (ls L) t).length ≤ 2) ∧ ∀ x ∈ takesN (ls L) t, TkOk R x := by
  obtain ⟨k, hk, ek, hb, hb2⟩ := seen_at h h0 ht
  have hE := chkEd_ok (h.ed k hk)
  have e2 : begN L (k + 1) = begN L k + ((L.getD k e0).2.2.1 - (L.getD k e0).2.1) := rfl
  have h1 := hE.lo
  have h2 := hE.lt
  have h3 := hE.hi
  have h4 := hE.fade
  have h5 := h.big
  have hm := begN_mono h.eds (show k + 1 ≤ L.length by omega) (Nat.le_refl _)
  have hp := begN_bd h.eds k (by omega)
  unfold lenL at h5
  unfold takesN
  rw [ek, ls_get L hk]
  unfold takesE
  dsimp only
  split
  · refine ⟨by simp, fun x hx => ?_⟩
    simp only [List.mem_singleton] at hx
    subst hx
    exact ⟨hE.idx, by dsimp only; omega, by dsimp only; omega, by dsimp only; omega, by dsimp only; omega⟩
  · rename_i hf
    have hk0 : 0 < k := by
      apply Nat.pos_of_ne_zero
      rintro rfl
      have := (hE.first rfl).1
      omega
    have hP := hE.prev hk0
    have hB := chkEd_ok (h.ed (k - 1) (by omega))
    have g1 := hB.lo
    have g2 := hB.lt
    rw [ls_get L (show k - 1 < L.length by omega)]
    have l1 := low_bd (n := (L.getD k e0).2.2.2.1 - (t - begN L k)) (d := (L.getD k e0).2.2.2.1 + 1) (by omega) (by omega)
    have l2 := low_bd (n := t - begN L k + 1) (d := (L.getD k e0).2.2.2.1 + 1) (by omega) (by omega)
    refine ⟨by simp, fun x hx => ?_⟩
    simp only [List.mem_cons, List.not_mem_nil, or_false] at hx
    rcases hx with rfl | rfl
    · exact ⟨hB.idx, by dsimp only; omega, by dsimp only; omega, l1.1, l1.2⟩
    · exact ⟨hE.idx, by dsimp only; omega, by dsimp only; omega, l2.1, l2.2⟩
theorem ListOk.pls' {R : List Rl} {L : List Ed} (h : ListOk R L) {t : Int} (h0 : 0 ≤ t) (ht : t < lenL L) : PlsOk (ls L) := by
  obtain ⟨k, hk, _⟩ := seen_at h h0 ht
  exact h.pls (by omega)
theorem ListOk.frame {R : List Rl} {L : List Ed} (h : ListOk R L) {t : Int} (ht : t < lenL L) : t ≤ 100000 := by
  have := h.big
  omega
theorem lenL_nn {R : List Rl} {L : List Ed} (h : ListOk R L) : 0 ≤ lenL L := by
  have := begN_bd h.eds L.length (Nat.le_refl _)
  unfold lenL
  omega
theorem map_range {α : Type} (f : Nat → α) (g : Nat) : (List.range (g + 1)).map f = (List.range g).map f ++ [f g] := by
  rw [List.range_succ, List.map_append]; rfl
theorem mul_bd {a b A B : Int} (ha : 0 ≤ a) (hA : a ≤ A) (hb : 0 ≤ b) (hB : b ≤ B) : 0 ≤ a * b ∧ a * b ≤ A * B :=
  ⟨Int.mul_nonneg ha hb, Int.mul_le_mul hA hB hb (by omega)⟩
theorem take_check {R : List Rl} (hr : chkRs R = 0) {x : Tk} (h : TkOk R x) :
    (0 ≤ x.2.1 - (rlOf R x.1).2.1 ∧ x.2.1 - (rlOf R x.1).2.1 < ((rlOf R x.1).2.2.length : Int)) ∧ (0 ≤ (rlOf R x.1).2.2.getD (x.2.1 - (rlOf R x.1).2.1).toNat 0 ∧ (rlOf R x.1).2.2.getD (x.2.1 - (rlOf R x.1).2.1).toNat 0 ≤ 65535) := by
  have h1 := h.lo
  have h2 := h.hi
  unfold endR at h2
  have hw := ((rs_at hr).2 _ (getD_mem (d := r0) h.idx)).w
  refine ⟨by omega, ?_⟩
  exact hw _ (getD_mem (show (x.2.1 - (rlOf R x.1).2.1).toNat < (rlOf R x.1).2.2.length by omega))
structure MixBd (N D : Int) (q : Int × Int) : Prop where
  n0 : 0 ≤ q.1
  n1 : q.1 ≤ N
  d0 : 1 ≤ q.2
  d1 : q.2 ≤ D
theorem mix_step {N D n d c a b : Int} (hN : N ≤ 131070000) (hD : D ≤ 2000) (h : 0 ≤ n ∧ n ≤ N) (h' : 1 ≤ d ∧ d ≤ D) (hc : 0 ≤ c ∧ c ≤ 65535) (ha : 1 ≤ a ∧ a ≤ 2000) (hb : 1 ≤ b ∧ b ≤ 2000) :
    fits .i64 (n * b) ∧ fits .i64 (c * a) ∧ fits .i64 (c * a * d) ∧ fits .i64 (n * b + c * a * d) ∧ fits .i64 (d * b) ∧ MixBd (N * 2000 + 131070000 * D) (D * 2000) (n * b + c * a * d, d * b) := by
  have e1 := mul_bd h.1 h.2 (show 0 ≤ b by omega) hb.2
  have e2 := mul_bd hc.1 hc.2 (show 0 ≤ a by omega) ha.2
  have e3 := mul_bd e2.1 e2.2 (show 0 ≤ d by omega) h'.2
  have e4 := mul_bd (show 0 ≤ d by omega) h'.2 (show 0 ≤ b by omega) hb.2
  have e5 : 1 ≤ d * b := Int.mul_pos (by omega) (by omega)
  simp only [fits]
  refine ⟨by omega, by omega, by omega, by omega, by omega, by dsimp only; omega, by dsimp only; omega, e5, e4.2⟩
theorem mixTo_succ {R : List Rl} (hd : NoDup R) (ts : List Tk) (j : Nat) : mixTo (mapR R R.length) ts (j + 1) =
    ((mixTo (mapR R R.length) ts j).1 * (ts.getD j tk0).2.2.2 + (rlOf R (ts.getD j tk0).1).2.2.getD ((ts.getD j tk0).2.1 - (rlOf R (ts.getD j tk0).1).2.1).toNat 0 * (ts.getD j tk0).2.2.1 * (mixTo (mapR R R.length) ts j).2, (mixTo (mapR R R.length) ts j).2 * (ts.getD j tk0).2.2.2) := by
  simp only [mixTo, rlM_eq hd]
def nB : Nat → Int
  | 0 => 0
  | 1 => 131070000
  | _ => 524280000000
def dB : Nat → Int
  | 0 => 1
  | 1 => 2000
  | _ => 4000000
theorem mix_bd {R : List Rl} (hr : chkRs R = 0) {ts : List Tk} (h : ∀ x ∈ ts, TkOk R x) : ∀ j, j ≤ ts.length → j ≤ 2 → MixBd (nB j) (dB j) (mixTo (mapR R R.length) ts j)
  | 0, _, _ => ⟨by simp [mixTo], by simp [mixTo, nB], by simp [mixTo], by simp [mixTo, dB]⟩
  | j + 1, hj, h2 => by
    have h4 := mix_bd hr h j (by omega) (by omega)
    have hx := h _ (getD_mem (d := tk0) (show j < ts.length by omega))
    have hB : nB j ≤ 131070000 ∧ dB j ≤ 2000 ∧ nB j * 2000 + 131070000 * dB j = nB (j + 1) ∧ dB j * 2000 = dB (j + 1) := by
      have : j = 0 ∨ j = 1 := by omega
      rcases this with rfl | rfl <;> decide
    have := (mix_step hB.1 hB.2.1 ⟨h4.n0, h4.n1⟩ ⟨h4.d0, h4.d1⟩ (take_check hr hx).2 hx.num hx.den).2.2.2.2.2
    rw [mixTo_succ (rs_nodup hr), ← hB.2.2.1, ← hB.2.2.2]
    exact this
theorem trimL_len (L : List Ed) (k : Nat) (b : Int) : (trimL L k b).length = L.length := by simp [trimL]
theorem frontL_len (L : List Ed) (k : Nat) (b : Int) : (frontL L k b).length = L.length := by simp [frontL]
theorem rollL_len (L : List Ed) (k : Nat) (b : Int) : (rollL L k b).length = L.length := by simp [rollL, trimL, frontL]
theorem slipL_len (L : List Ed) (k : Nat) (b : Int) : (slipL L k b).length = L.length := by simp [slipL, trimL, frontL]
theorem trimL_get (L : List Ed) (k j : Nat) (b : Int) (hk : k < L.length) : (trimL L k b).getD j e0 = if k = j then ((L.getD k e0).1, (L.getD k e0).2.1, (L.getD k e0).2.2.1 + b, (L.getD k e0).2.2.2.1, (L.getD k e0).2.2.2.2) else L.getD j e0 := by
  unfold trimL
  rw [List.getD_eq_getElem?_getD, List.getElem?_set]
  split
  · first | rfl | (rw [if_pos hk]; rfl)
  · rw [← List.getD_eq_getElem?_getD]
theorem frontL_get (L : List Ed) (k j : Nat) (b : Int) (hk : k < L.length) : (frontL L k b).getD j e0 = if k = j then ((L.getD k e0).1, (L.getD k e0).2.1 + b, (L.getD k e0).2.2.1, (L.getD k e0).2.2.2.1, (L.getD k e0).2.2.2.2) else L.getD j e0 := by
  unfold frontL
  rw [List.getD_eq_getElem?_getD, List.getElem?_set]
  split
  · first | rfl | (rw [if_pos hk]; rfl)
  · rw [← List.getD_eq_getElem?_getD]
theorem trim_fold (L : List Ed) (k : Nat) (b : Int) : L.set k ((L.getD k e0).1, (L.getD k e0).2.1, (L.getD k e0).2.2.1 + b, (L.getD k e0).2.2.2.1, (L.getD k e0).2.2.2.2) = trimL L k b := rfl
theorem front_fold (L : List Ed) (k : Nat) (b : Int) : L.set k ((L.getD k e0).1, (L.getD k e0).2.1 + b, (L.getD k e0).2.2.1, (L.getD k e0).2.2.2.1, (L.getD k e0).2.2.2.2) = frontL L k b := rfl
theorem roll_fold (L : List Ed) (k : Nat) (b : Int) : frontL (trimL L (k - 1) b) k b = rollL L k b := rfl
theorem slip_fold (L : List Ed) (k : Nat) (b : Int) : trimL (frontL L k b) k b = slipL L k b := rfl
theorem chg_bad {R : List Rl} {L : List Ed} {i b least : Int} {g : List Ed → Nat → Int → List Ed} (h : chkEds R L ≠ 0) : chgL R L i b least g = [] ∧ chkEds R L = chgE R L i b least g := by
  have hc : chkCh R L i b least = chkEds R L := if_pos h
  have he : chgE R L i b least g = chkEds R L := by unfold chgE; rw [hc, if_pos h]
  exact ⟨by unfold chgL; rw [he, if_neg h], he.symm⟩
theorem chg_err {R : List Rl} {L : List Ed} {i b least : Int} {g : List Ed → Nat → Int → List Ed} (h : chkCh R L i b least ≠ 0) : chgL R L i b least g = [] ∧ chkCh R L i b least = chgE R L i b least g := by
  have he : chgE R L i b least g = chkCh R L i b least := if_pos h
  exact ⟨by unfold chgL; rw [he, if_neg h], he.symm⟩
theorem chkCh_eq {R : List Rl} {L : List Ed} {i b least : Int} (h : chkEds R L = 0) : first [whenE (bif decide (i < 0) then true else decide ((L.length : Int) ≤ i)) 10, within b (-10000000) 10000000, whenE (decide (i < least)) 21] = chkCh R L i b least := by
  unfold chkCh
  rw [if_neg (by simpa using h), bcond_l, Bool.decide_or]
theorem chkCh_zero {R : List Rl} {L : List Ed} {i b least : Int} (_hl : 0 ≤ least) (h : chkCh R L i b least = 0) : ListOk R L ∧ (least ≤ i ∧ i < L.length) ∧ (-10000000 ≤ b ∧ b ≤ 10000000) := by
  unfold chkCh at h
  split at h
  · rename_i h1; exact absurd h h1
  · rename_i h1
    have h1' : chkEds R L = 0 := by simpa using h1
    have hz := (first_zero_iff _).1 h
    have a1 := of_decide_eq_false ((whenE_zero (by decide)).1 (hz _ (List.mem_cons_self)))
    have a2 := within_zero.1 (hz _ (List.mem_cons_of_mem _ List.mem_cons_self))
    have a3 := of_decide_eq_false ((whenE_zero (by decide)).1 (hz _ (List.mem_cons_of_mem _ (List.mem_cons_of_mem _ List.mem_cons_self))))
    exact ⟨chkEds_zero.1 h1', by omega, a2⟩
theorem chg_ok {R : List Rl} {L : List Ed} {i b least : Int} {g : List Ed → Nat → Int → List Ed} (h : chkCh R L i b least = 0) :
    (chkEds R (g L i.toNat b) ≠ 0 → chgL R L i b least g = [] ∧ chkEds R (g L i.toNat b) = chgE R L i b least g) ∧ (chkEds R (g L i.toNat b) = 0 → g L i.toNat b = chgL R L i b least g ∧ 0 = chgE R L i b least g) := by
  have he : chgE R L i b least g = chkEds R (g L i.toNat b) := if_neg (by simpa using h)
  refine ⟨fun h2 => ⟨by unfold chgL; rw [he, if_neg h2], he.symm⟩, fun h2 => ⟨by unfold chgL; rw [he, if_pos h2], by rw [he, h2]⟩⟩
end Go.Sx

namespace Go.Sx
open U
theorem vc43 (R : List Rl) (L : List Ed) : exF (env false [(24, sp24), (107, sp107), (106, sp106), (129, sp129), (120, sp120), (130, sp130), (131, sp131), (112, sp112)] []) h43 0 43 Proofs.Tryz.f43 [.one (.sl rlT R), .one (.sl edT L)] (.val (iV (chkEds R L))) = (let q2 := (List.length L); let q0 := (plTo L q2); let q3 := (decide ((16 : Int) < (↑q2 : Int))); let q6 := (↑(List.length q0) : Int); let q9 := (List.length R); let q12 := (spE (mapR R q9) q0 (begN L q2)); List.length R ≤ (1000000000 : Nat) ∧ (∀ (r : Rl), r ∈ R → List.length r.2.2 ≤ (1000000 : Nat)) ∧ (2 : Nat) ≤ (1000000000 : Nat) ∧ splitB (first [chkRs R, whenE q3 (5 : Int)] != (0 : Int)) (first [chkRs R, whenE q3 (5 : Int)] = chkEds R L ∧ True) ((∃ (g : Nat), (g ≤ List.length L ∧ upTo (chkEd R L) g = (0 : Int)) ∧ (0 : Int) = (↑g : Int) ∧ (↑q2 : Int) = (↑q2 : Int) ∧ R = R ∧ L = L ∧ [chkRs R, whenE q3 (5 : Int)] = [chkRs R, whenE q3 (5 : Int)] ∧ True) ∧ ∀ (g : Nat), g ≤ List.length L ∧ upTo (chkEd R L) g = (0 : Int) → splitB (decide ((↑g : Int) < (↑q2 : Int))) (chkRs R = (0 : Int) ∧ (↑g : Int) = (↑g : Int) ∧ g < List.length L ∧ List.length L ≤ (1000000 : Nat) ∧ ((0 : Nat) < g → chkEd R L (g - (1 : Nat)) = (0 : Int)) ∧ splitB (chkEd R L g != (0 : Int)) (chkEd R L g = chkEds R L ∧ True) (fits IntKind.i64 ((↑g : Int) + (1 : Int)) ∧ ∃ (g' : Nat), (g' ≤ List.length L ∧ upTo (chkEd R L) g' = (0 : Int)) ∧ List.length L - g' < List.length L - g ∧ (↑g : Int) + (1 : Int) = (↑g' : Int) ∧ (↑q2 : Int) = (↑q2 : Int) ∧ R = R ∧ L = L ∧ [chkRs R, whenE q3 (5 : Int)] = [chkRs R, whenE q3 (5 : Int)] ∧ True)) (List.length R ≤ (1000000000 : Nat) ∧ EdsIn L ∧ splitB (decide ((1024 : Int) < begN L q2)) ((4 : Int) = chkEds R L ∧ True) ((∃ (g : Nat), (g ≤ List.length q0 ∧ upTo (ordE q0 (begN L q2)) g = (0 : Int)) ∧ (0 : Int) = (↑g : Int) ∧ q6 = q6 ∧ plTo L q2 = plTo L q2 ∧ R = R ∧ L = L ∧ plTo L q2 = plTo L q2 ∧ begN L q2 = begN L q2 ∧ mapR R q9 = mapR R q9 ∧ [chkRs R, whenE q3 (5 : Int)] = [chkRs R, whenE q3 (5 : Int)] ∧ True) ∧ ∀ (g : Nat), let q5 := (List.getD q0 (Int.toNat ((↑g : Int) - (1 : Int))) pl0); let q8 := (List.getD q0 g pl0); let q11 := ((0 : Int) < (↑g : Int)); g ≤ List.length q0 ∧ upTo (ordE q0 (begN L q2)) g = (0 : Int) → splitB (decide ((↑g : Int) < q6)) (((0 : Int) ≤ (↑g : Int) ∧ (↑g : Int) < q6) ∧ (decide q11 = true → fits IntKind.i64 (q8.2 + q8.1.2.2.2.2)) ∧ (decide q11 = true → fits IntKind.i64 ((↑g : Int) - (1 : Int))) ∧ (decide q11 = true → (0 : Int) ≤ (↑g : Int) - (1 : Int) ∧ (↑g : Int) - (1 : Int) < q6) ∧ (decide q11 = true → fits IntKind.i64 (q5.2 + q5.1.2.2.2.2)) ∧ (decide (q8.2 + q8.1.2.2.2.2 ≤ q5.2 + q5.1.2.2.2.2) = false → fits IntKind.i64 (q8.2 + q8.1.2.2.2.2)) ∧ splitB (bif decide q11 then bif decide (q8.2 + q8.1.2.2.2.2 ≤ q5.2 + q5.1.2.2.2.2) then true else decide (begN L q2 ≤ q8.2 + q8.1.2.2.2.2) else false) ((11 : Int) = chkEds R L ∧ True) (fits IntKind.i64 ((↑g : Int) + (1 : Int)) ∧ ∃ (g' : Nat), (g' ≤ List.length q0 ∧ upTo (ordE q0 (begN L q2)) g' = (0 : Int)) ∧ List.length q0 - g' < List.length q0 - g ∧ (↑g : Int) + (1 : Int) = (↑g' : Int) ∧ q6 = q6 ∧ plTo L q2 = plTo L q2 ∧ R = R ∧ L = L ∧ plTo L q2 = plTo L q2 ∧ begN L q2 = begN L q2 ∧ mapR R q9 = mapR R q9 ∧ [chkRs R, whenE q3 (5 : Int)] = [chkRs R, whenE q3 (5 : Int)] ∧ True)) ((∃ (g : Nat), (g ≤ List.length q0 ∧ upTo q12 g = (0 : Int)) ∧ (0 : Int) = (↑g : Int) ∧ q6 = q6 ∧ plTo L q2 = plTo L q2 ∧ R = R ∧ L = L ∧ plTo L q2 = plTo L q2 ∧ begN L q2 = begN L q2 ∧ mapR R q9 = mapR R q9 ∧ [chkRs R, whenE q3 (5 : Int)] = [chkRs R, whenE q3 (5 : Int)] ∧ True) ∧ ∀ (g : Nat), let q7 := (List.getD q0 g pl0); let q1 := (Option.getD (mapGet Ty.str (Ty.pair Ty.str (Ty.pair (Ty.int IntKind.i64) (Ty.sl (Ty.int IntKind.i64)))) (mapR R q9) q7.1.1) r0); let q10 := (heardN q0 (begN L q2) g); let q4 := (q7.1.2.1 + q10.1 - q7.2 < q1.2.1); g ≤ List.length q0 ∧ upTo q12 g = (0 : Int) → splitB (decide ((↑g : Int) < q6)) (((0 : Int) ≤ (↑g : Int) ∧ (↑g : Int) < q6) ∧ (↑g : Int) = (↑g : Int) ∧ g < List.length q0 ∧ (∀ (x : Pl), x ∈ plTo L q2 → fits IntKind.i64 (sndN x)) ∧ List.length q0 ≤ (1000000 : Nat) ∧ fits IntKind.i64 (q7.1.2.1 + q10.1) ∧ fits IntKind.i64 (q7.1.2.1 + q10.1 - q7.2) ∧ (decide q4 = false → fits IntKind.i64 (q7.1.2.1 + q10.2)) ∧ (decide q4 = false → fits IntKind.i64 (q7.1.2.1 + q10.2 - q7.2)) ∧ (decide q4 = false → fits IntKind.i64 (q1.2.1 + (↑(List.length q1.2.2) : Int))) ∧ splitB (bif decide q4 then true else decide (q1.2.1 + (↑(List.length q1.2.2) : Int) < q7.1.2.1 + q10.2 - q7.2)) ((16 : Int) = chkEds R L ∧ True) (fits IntKind.i64 ((↑g : Int) + (1 : Int)) ∧ ∃ (g' : Nat), (g' ≤ List.length q0 ∧ upTo q12 g' = (0 : Int)) ∧ List.length q0 - g' < List.length q0 - g ∧ (↑g : Int) + (1 : Int) = (↑g' : Int) ∧ q6 = q6 ∧ plTo L q2 = plTo L q2 ∧ R = R ∧ L = L ∧ plTo L q2 = plTo L q2 ∧ begN L q2 = begN L q2 ∧ mapR R q9 = mapR R q9 ∧ [chkRs R, whenE q3 (5 : Int)] = [chkRs R, whenE q3 (5 : Int)] ∧ True)) ((0 : Int) = chkEds R L ∧ True)))))) := by
  kernel_rfl
theorem vc121 (p : List Pl) : exF (env false [] [fb122]) h121 3 121 Proofs.Tryz.f121 [.one (.sl plT p), .one (.fn 122 [] [])] (.val (.one (.frs (.int .i64) (p.map fun x => x.2)))) = (let q0 := (↑(List.length p) : Int); (∃ (g : Nat), Nat.le g (List.length p) ∧ (0 : Int) = (↑g : Int) ∧ q0 = q0 ∧ p = p ∧ List.map (fun (x : (List UInt8 × Int × Int × Int × Int) × Int) => x.2) (List.take g p) = [] ∧ True) ∧ ∀ (g : Nat), Nat.le g (List.length p) → splitB (decide ((↑g : Int) < q0)) (((0 : Int) ≤ (↑g : Int) ∧ (↑g : Int) < q0) ∧ room (List.length (List.map (fun (x : (List UInt8 × Int × Int × Int × Int) × Int) => x.2) (List.take g p)) + (1 : Nat)) (8 : Nat) ∧ fits IntKind.i64 ((↑g : Int) + (1 : Int)) ∧ ∃ (g' : Nat), Nat.le g' (List.length p) ∧ List.length p - g' < List.length p - g ∧ (↑g : Int) + (1 : Int) = (↑g' : Int) ∧ q0 = q0 ∧ p = p ∧ List.map (fun (x : (List UInt8 × Int × Int × Int × Int) × Int) => x.2) (List.take g p) ++ [(List.getD p g pl0).2] = List.map (fun (x : (List UInt8 × Int × Int × Int × Int) × Int) => x.2) (List.take g' p) ∧ True) (List.map (fun (x : (List UInt8 × Int × Int × Int × Int) × Int) => x.2) (List.take g p) = List.map (fun (x : Pl) => x.2) p ∧ True)) := by
  kernel_rfl
theorem vc33 (R : List Rl) (L : List Ed) : exF (env false [(43, sp43), (120, sp120), (121, sp121)] []) h0 0 33 Proofs.Tryz.f33 [.one (.sl rlT R), .one (.sl edT L)] (.tup [.one (.frs (.int .i64) (startsN R L)), iV (lenN R L), iV (chkEds R L)]) = (List.length R ≤ (1000000000 : Nat) ∧ (∀ (r : Rl), r ∈ R → List.length r.2.2 ≤ (1000000 : Nat)) ∧ List.length L ≤ (1000000000 : Nat) ∧ splitB (chkEds R L != (0 : Int)) (startsN R L = [] ∧ (0 : Int) = lenN R L ∧ chkEds R L = chkEds R L ∧ True) (List.length R ≤ (1000000000 : Nat) ∧ EdsIn L ∧ List.length (plTo L (List.length L)) ≤ (1000000 : Nat) ∧ List.map (fun (x : Pl) => x.2) (plTo L (List.length L)) = startsN R L ∧ begN L (List.length L) = lenN R L ∧ (0 : Int) = chkEds R L ∧ True)) := by
  kernel_rfl
theorem vc36 (R : List Rl) (L : List Ed) : exF (env false [(43, sp43), (120, sp120), (124, sp124)] []) h36 0 36 Proofs.Tryz.f36 [.one (.sl rlT R), .one (.sl edT L)] (.tup [.one (.frs tkT (soundsN R L)), iV (chkEds R L)]) = (let q0 := (List.length L); List.length R ≤ (1000000000 : Nat) ∧ (∀ (r : Rl), r ∈ R → List.length r.2.2 ≤ (1000000 : Nat)) ∧ List.length L ≤ (1000000000 : Nat) ∧ splitB (chkEds R L != (0 : Int)) (soundsN R L = [] ∧ chkEds R L = chkEds R L ∧ True) (List.length R ≤ (1000000000 : Nat) ∧ EdsIn L ∧ (∃ (g : Nat), Nat.le g (Int.toNat (begN L q0)) ∧ (0 : Int) = (↑g : Int) ∧ begN L q0 = begN L q0 ∧ R = R ∧ L = L ∧ List.map (fun (t : Nat) => soundN (plTo L q0) (↑t : Int)) (List.range g) = [] ∧ plTo L q0 = plTo L q0 ∧ begN L q0 = begN L q0 ∧ mapR R (List.length R) = mapR R (List.length R) ∧ True) ∧ ∀ (g : Nat), let q1 := (soundN (plTo L q0) (↑g : Int)); Nat.le g (Int.toNat (begN L q0)) → splitB (decide ((↑g : Int) < begN L q0)) (PlsOk (plTo L q0) ∧ ((0 : Int) ≤ (↑g : Int) ∧ (↑g : Int) ≤ (100000 : Int)) ∧ room (List.length (List.map (fun (t : Nat) => soundN (plTo L q0) (↑t : Int)) (List.range g)) + (1 : Nat)) (40 : Nat) ∧ fits IntKind.i64 ((↑g : Int) + (1 : Int)) ∧ ∃ (g' : Nat), Nat.le g' (Int.toNat (begN L q0)) ∧ Int.toNat (begN L q0) - g' < Int.toNat (begN L q0) - g ∧ (↑g : Int) + (1 : Int) = (↑g' : Int) ∧ begN L q0 = begN L q0 ∧ R = R ∧ L = L ∧ List.map (fun (t : Nat) => soundN (plTo L q0) (↑t : Int)) (List.range g) ++ [(q1.1, q1.2.1, q1.2.2.1, q1.2.2.2)] = List.map (fun (t : Nat) => soundN (plTo L q0) (↑t : Int)) (List.range g') ∧ plTo L q0 = plTo L q0 ∧ begN L q0 = begN L q0 ∧ mapR R (List.length R) = mapR R (List.length R) ∧ True) (List.map (fun (t : Nat) => soundN (plTo L q0) (↑t : Int)) (List.range g) = soundsN R L ∧ (0 : Int) = chkEds R L ∧ True))) := by
  kernel_rfl
theorem vc35 (R : List Rl) (L : List Ed) : exF (env false [(43, sp43), (120, sp120), (155, sp155)] [fb123, fb174]) h35 3 35 Proofs.Tryz.f35 [.one (.sl rlT R), .one (.sl edT L)] (.tup [.one (.frs (.sl tkT) (confN R L)), iV (chkEds R L)]) = (let q0 := (List.length L); List.length R ≤ (1000000000 : Nat) ∧ (∀ (r : Rl), r ∈ R → List.length r.2.2 ≤ (1000000 : Nat)) ∧ List.length L ≤ (1000000000 : Nat) ∧ splitB (chkEds R L != (0 : Int)) (confN R L = [] ∧ chkEds R L = chkEds R L ∧ True) (List.length R ≤ (1000000000 : Nat) ∧ EdsIn L ∧ (∃ (g : Nat), Nat.le g (Int.toNat (begN L q0)) ∧ (0 : Int) = (↑g : Int) ∧ begN L q0 = begN L q0 ∧ List.map (fun (t : Nat) => takesN (plTo L q0) (↑t : Int)) (List.range g) = [] ∧ plTo L q0 = plTo L q0 ∧ begN L q0 = begN L q0 ∧ mapR R (List.length R) = mapR R (List.length R) ∧ True) ∧ ∀ (g : Nat), Nat.le g (Int.toNat (begN L q0)) → splitB (decide ((↑g : Int) < begN L q0)) (PlsOk (plTo L q0) ∧ ((0 : Int) ≤ (↑g : Int) ∧ (↑g : Int) ≤ (100000 : Int)) ∧ room (List.length (List.map (fun (t : Nat) => takesN (plTo L q0) (↑t : Int)) (List.range g)) + (1 : Nat)) (24 : Nat) ∧ fits IntKind.i64 ((↑g : Int) + (1 : Int)) ∧ ∃ (g' : Nat), Nat.le g' (Int.toNat (begN L q0)) ∧ Int.toNat (begN L q0) - g' < Int.toNat (begN L q0) - g ∧ (↑g : Int) + (1 : Int) = (↑g' : Int) ∧ begN L q0 = begN L q0 ∧ List.map (fun (t : Nat) => takesN (plTo L q0) (↑t : Int)) (List.range g) ++ [takesN (plTo L q0) (↑g : Int)] = List.map (fun (t : Nat) => takesN (plTo L q0) (↑t : Int)) (List.range g') ∧ plTo L q0 = plTo L q0 ∧ begN L q0 = begN L q0 ∧ mapR R (List.length R) = mapR R (List.length R) ∧ True) (List.map (fun (t : Nat) => takesN (plTo L q0) (↑t : Int)) (List.range g) = confN R L ∧ (0 : Int) = chkEds R L ∧ True))) := by
  kernel_rfl
theorem vc37 (R : List Rl) (L : List Ed) : exF (env false [(43, sp43), (120, sp120), (155, sp155)] [fb123, fb174]) h37 3 37 Proofs.Tryz.f37 [.one (.sl rlT R), .one (.sl edT L)] (.tup [.one (.frs (.int .i64) (playN R L)), iV (chkEds R L)]) = (let q3 := (List.length L); let q4 := (List.length R); List.length R ≤ (1000000000 : Nat) ∧ (∀ (r : Rl), r ∈ R → List.length r.2.2 ≤ (1000000 : Nat)) ∧ List.length L ≤ (1000000000 : Nat) ∧ splitB (chkEds R L != (0 : Int)) (playN R L = [] ∧ chkEds R L = chkEds R L ∧ True) (List.length R ≤ (1000000000 : Nat) ∧ EdsIn L ∧ (∃ (g : Nat), Nat.le g (Int.toNat (begN L q3)) ∧ (0 : Int) = (↑g : Int) ∧ begN L q3 = begN L q3 ∧ List.map (fun (t : Nat) => mixN (mapR R q4) (takesN (plTo L q3) (↑t : Int))) (List.range g) = [] ∧ plTo L q3 = plTo L q3 ∧ begN L q3 = begN L q3 ∧ mapR R q4 = mapR R q4 ∧ plTo L q3 = plTo L q3 ∧ begN L q3 = begN L q3 ∧ mapR R q4 = mapR R q4 ∧ True) ∧ ∀ (g : Nat), let q0 := (takesN (plTo L q3) (↑g : Int)); let q6 := (↑(List.length q0) : Int); let q8 := (List.range g); Nat.le g (Int.toNat (begN L q3)) → splitB (decide ((↑g : Int) < begN L q3)) (PlsOk (plTo L q3) ∧ ((0 : Int) ≤ (↑g : Int) ∧ (↑g : Int) ≤ (100000 : Int)) ∧ (∃ (g_1 : Nat), Nat.le g_1 (List.length q0) ∧ (0 : Int) = (↑g_1 : Int) ∧ (0 : Int) = (mixTo (mapR R q4) q0 g_1).1 ∧ (1 : Int) = (mixTo (mapR R q4) q0 g_1).2 ∧ q6 = q6 ∧ takesN (plTo L q3) (↑g : Int) = takesN (plTo L q3) (↑g : Int) ∧ List.map (fun (t : Nat) => mixN (mapR R q4) (takesN (plTo L q3) (↑t : Int))) q8 = List.map (fun (t : Nat) => mixN (mapR R q4) (takesN (plTo L q3) (↑t : Int))) q8 ∧ plTo L q3 = plTo L q3 ∧ begN L q3 = begN L q3 ∧ mapR R q4 = mapR R q4 ∧ plTo L q3 = plTo L q3 ∧ begN L q3 = begN L q3 ∧ mapR R q4 = mapR R q4 ∧ True) ∧ ∀ (g_1 : Nat), let q5 := (List.getD q0 g_1 tk0); let q1 := (Option.getD (mapGet Ty.str (Ty.pair Ty.str (Ty.pair (Ty.int IntKind.i64) (Ty.sl (Ty.int IntKind.i64)))) (mapR R q4) q5.1) r0); let q2 := (mixTo (mapR R q4) q0 g_1); let q7 := (Int.toNat (q5.2.1 - q1.2.1)); let q9 := ((2 : Int) * q2.1 + q2.2); Nat.le g_1 (List.length q0) → splitB (decide ((↑g_1 : Int) < q6)) (((0 : Int) ≤ (↑g_1 : Int) ∧ (↑g_1 : Int) < q6) ∧ fits IntKind.i64 (q2.1 * q5.2.2.2) ∧ fits IntKind.i64 (q5.2.1 - q1.2.1) ∧ ((0 : Int) ≤ q5.2.1 - q1.2.1 ∧ q5.2.1 - q1.2.1 < (↑(List.length q1.2.2) : Int)) ∧ fits IntKind.i64 (List.getD q1.2.2 q7 (0 : Int) * q5.2.2.1) ∧ fits IntKind.i64 (List.getD q1.2.2 q7 (0 : Int) * q5.2.2.1 * q2.2) ∧ fits IntKind.i64 (q2.1 * q5.2.2.2 + List.getD q1.2.2 q7 (0 : Int) * q5.2.2.1 * q2.2) ∧ fits IntKind.i64 (q2.2 * q5.2.2.2) ∧ fits IntKind.i64 ((↑g_1 : Int) + (1 : Int)) ∧ ∃ (g' : Nat), Nat.le g' (List.length q0) ∧ List.length q0 - g' < List.length q0 - g_1 ∧ (↑g_1 : Int) + (1 : Int) = (↑g' : Int) ∧ q2.1 * q5.2.2.2 + List.getD q1.2.2 q7 (0 : Int) * q5.2.2.1 * q2.2 = (mixTo (mapR R q4) q0 g').1 ∧ q2.2 * q5.2.2.2 = (mixTo (mapR R q4) q0 g').2 ∧ q6 = q6 ∧ takesN (plTo L q3) (↑g : Int) = takesN (plTo L q3) (↑g : Int) ∧ List.map (fun (t : Nat) => mixN (mapR R q4) (takesN (plTo L q3) (↑t : Int))) q8 = List.map (fun (t : Nat) => mixN (mapR R q4) (takesN (plTo L q3) (↑t : Int))) q8 ∧ plTo L q3 = plTo L q3 ∧ begN L q3 = begN L q3 ∧ mapR R q4 = mapR R q4 ∧ plTo L q3 = plTo L q3 ∧ begN L q3 = begN L q3 ∧ mapR R q4 = mapR R q4 ∧ True) (fits IntKind.i64 ((2 : Int) * q2.1) ∧ fits IntKind.i64 q9 ∧ fits IntKind.i64 ((2 : Int) * q2.2) ∧ ((0 : Int) ≤ (2 : Int) * q2.1 + q2.2 ∧ (0 : Int) < (2 : Int) * q2.2 ∧ fits IntKind.i64 (q9 / ((2 : Int) * q2.2))) ∧ room (List.length (List.map (fun (t : Nat) => mixN (mapR R q4) (takesN (plTo L q3) (↑t : Int))) q8) + (1 : Nat)) (8 : Nat) ∧ fits IntKind.i64 ((↑g : Int) + (1 : Int)) ∧ ∃ (g' : Nat), Nat.le g' (Int.toNat (begN L q3)) ∧ Int.toNat (begN L q3) - g' < Int.toNat (begN L q3) - g ∧ (↑g : Int) + (1 : Int) = (↑g' : Int) ∧ begN L q3 = begN L q3 ∧ List.map (fun (t : Nat) => mixN (mapR R q4) (takesN (plTo L q3) (↑t : Int))) q8 ++ [q9 / ((2 : Int) * q2.2)] = List.map (fun (t : Nat) => mixN (mapR R q4) (takesN (plTo L q3) (↑t : Int))) (List.range g') ∧ plTo L q3 = plTo L q3 ∧ begN L q3 = begN L q3 ∧ mapR R q4 = mapR R q4 ∧ plTo L q3 = plTo L q3 ∧ begN L q3 = begN L q3 ∧ mapR R q4 = mapR R q4 ∧ True)) (List.map (fun (t : Nat) => mixN (mapR R q4) (takesN (plTo L q3) (↑t : Int))) q8 = playN R L ∧ (0 : Int) = chkEds R L ∧ True))) := by
  kernel_rfl
theorem vc50 (R : List Rl) (L : List Ed) (i by_ : Int) : exF (env false [(43, sp43), (107, sp107), (109, sp109), (106, sp106)] [fb132, fb134, fb180, fb156]) h0 3 50 Proofs.Tryz.f50 [.one (.sl rlT R), .one (.sl edT L), iV i, iV by_] (.tup [.one (.frs edT (chgL R L i by_ 1 rollL)), iV (chgE R L i by_ 1 rollL)]) = (let q5 := (List.replicate (List.length L) e0); let q1 := (copyL (0 : Nat) (List.length q5) q5 L); let q10 := (i - (1 : Int)); let q3 := (List.getD q1 (Int.toNat q10) e0); let q0 := (List.set q1 (Int.toNat q10) (q3.1, q3.2.1, q3.2.2.1 + by_, q3.2.2.2.1, q3.2.2.2.2)); let q4 := (List.getD q0 (Int.toNat i) e0); let q2 := (q4.1, q4.2.1 + by_, q4.2.2.1, q4.2.2.2.1, q4.2.2.2.2); let q6 := (bif decide (i < (0 : Int)) then true else decide ((↑(List.length L) : Int) ≤ i)); let q7 := ((0 : Int) ≤ i - (1 : Int) ∧ i - (1 : Int) < (↑(List.length q1) : Int)); let q8 := (1000000000 : Nat); let q9 := (List.set q0 (Int.toNat i) q2); let q11 := ((0 : Int) ≤ i ∧ i < (↑(List.length q0) : Int)); List.length R ≤ q8 ∧ (∀ (r : Rl), r ∈ R → List.length r.2.2 ≤ (1000000 : Nat)) ∧ List.length L ≤ q8 ∧ splitB (chkEds R L != (0 : Int)) (chgL R L i by_ (1 : Int) rollL = [] ∧ chkEds R L = chgE R L i by_ (1 : Int) rollL ∧ True) ((3 : Nat) ≤ q8 ∧ splitB (first [whenE q6 (10 : Int), within by_ (-10000000 : Int) (10000000 : Int), whenE (decide (i < (1 : Int))) (21 : Int)] != (0 : Int)) (chgL R L i by_ (1 : Int) rollL = [] ∧ first [whenE q6 (10 : Int), within by_ (-10000000 : Int) (10000000 : Int), whenE (decide (i < (1 : Int))) (21 : Int)] = chgE R L i by_ (1 : Int) rollL ∧ True) ((0 : Int) ≤ (↑(List.length L) : Int) ∧ room (List.length L) (48 : Nat) ∧ (0 : Nat) + List.length q5 ≤ List.length q5 ∧ fits IntKind.i64 q10 ∧ q7 ∧ Int.toNat q10 < List.length q1 ∧ fits IntKind.i64 (q3.2.2.1 + by_) ∧ q7 ∧ Int.toNat q10 < List.length q1 ∧ q11 ∧ Int.toNat i < List.length q0 ∧ fits IntKind.i64 (q4.2.1 + by_) ∧ q11 ∧ Int.toNat i < List.length q0 ∧ List.length R ≤ q8 ∧ (∀ (r : Rl), r ∈ R → List.length r.2.2 ≤ (1000000 : Nat)) ∧ List.length q9 ≤ q8 ∧ splitB (chkEds R q9 != (0 : Int)) (chgL R L i by_ (1 : Int) rollL = [] ∧ chkEds R q9 = chgE R L i by_ (1 : Int) rollL ∧ True) (List.set q0 (Int.toNat i) q2 = chgL R L i by_ (1 : Int) rollL ∧ (0 : Int) = chgE R L i by_ (1 : Int) rollL ∧ True)))) := by
  kernel_rfl
end Go.Sx
