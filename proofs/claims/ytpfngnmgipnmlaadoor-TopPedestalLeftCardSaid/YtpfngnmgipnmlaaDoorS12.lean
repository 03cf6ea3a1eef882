/- A verified symbolic run of functions, part 12: lemmas, no claim of their own. -/
import Derived.Test.YtpfngnmgipnmlaaDoorS11
/- Contracts. -/
namespace Go.Sx
open U
theorem upTo_stay {f : Nat → Int} {i : Nat} (h : upTo f i ≠ 0) : ∀ k, upTo f (i + k) = upTo f i
  | 0 => rfl
  | k + 1 => by
    have ih := upTo_stay h k
    rw [← Nat.add_assoc]
    show (if upTo f (i + k) = 0 then _ else _) = _
    rw [ih, if_neg h]
theorem idxN_le (nm : List UInt8) (R : List Rl) : idxN nm R ≤ R.length := List.findIdx_le_length
theorem idxN_at {nm : List UInt8} {R : List Rl} {j : Nat} {d : Rl} (h : j < R.length) (hn : (R.getD j d).1 = nm) : idxN nm R ≤ j := by
  apply Nat.le_of_not_lt
  intro hlt
  have := List.not_of_lt_findIdx hlt
  rw [getD_of h] at hn
  simp [hn] at this
theorem idxN_next {nm : List UInt8} {R : List Rl} {j : Nat} {d : Rl} (hj : j ≤ idxN nm R) (h : j < R.length) (hn : (R.getD j d).1 ≠ nm) : j + 1 ≤ idxN nm R := by
  apply Classical.byContradiction
  intro hc
  have e : idxN nm R = j := by omega
  have hlt : R.findIdx (fun r => decide (r.1 = nm)) < R.length := by show idxN nm R < _; omega
  have h2 := List.findIdx_getElem (w := hlt)
  simp only [decide_eq_true_eq] at h2
  apply hn
  rw [getD_of h, ← h2]
  have e' : R.findIdx (fun r => decide (r.1 = nm)) = j := e
  simp only [e']
theorem getD_mem {α : Type} {l : List α} {i : Nat} {d : α} (h : i < l.length) : l.getD i d ∈ l := by
  rw [getD_of h]
  exact List.getElem_mem h
theorem plTo_len (L : List Ed) : ∀ i, (plTo L i).length = i
  | 0 => rfl
  | i + 1 => by simp [plTo, plTo_len L i]
theorem begN_bd {L : List Ed} (h : EdsIn L) : ∀ i, i ≤ L.length → (i : Int) ≤ begN L i ∧ begN L i ≤ 10000000 * i
  | 0, _ => by simp [begN]
  | i + 1, hi => by
    have ih := begN_bd h i (by omega)
    have := h.2 _ (getD_mem (d := e0) (show i < L.length by omega))
    simp only [begN]
    omega
theorem fn129 (x : Ed) (h : fits .i64 (x.2.2.1 - x.2.1)) : Fn P1 gl1 129 [edV x] (.val (iV (x.2.2.1 - x.2.1))) true := by
  refine Fn.flat ?_ rfl
  refine fn_of false [] [] h0 0 Proofs.Tryd.f129 trivial trivial (by kernel_rfl) rfl (by kernel_rfl) rfl rfl rfl ?_
  rw [vc129]
  try simp only [splitB_iff, -eq_self]
  exact ⟨h, rfl, trivial⟩
theorem so129_ : SpecOk P1 gl1 129 sp129 := by
  intro vs ps r h hp
  simp only [sp129] at h
  split at h
  · cases h; exact fn129 (_, _, _, _, _) (hp _ (.head _))
  · cases h
theorem so129 : Sp1 129 sp129 := ⟨so129_, Proofs.Tryd.f129, _, by kernel_rfl, rfl, by kernel_rfl⟩

theorem fn105 (x : Pl) (h : fits .i64 (x.2 + x.1.2.2.2.2)) : Fn P1 gl1 105 [plV x] (.val (iV (x.2 + x.1.2.2.2.2))) true := by
  refine Fn.flat ?_ rfl
  refine fn_of false [] [] h0 0 Proofs.Tryd.f105 trivial trivial (by kernel_rfl) rfl (by kernel_rfl) rfl rfl rfl ?_
  rw [vc105]
  try simp only [splitB_iff, -eq_self]
  exact ⟨h, rfl, trivial⟩
theorem so105_ : SpecOk P1 gl1 105 sp105 := by
  intro vs ps r h hp
  simp only [sp105] at h
  split at h
  · cases h; exact fn105 ((_, _, _, _, _), _) (hp _ (.head _))
  · cases h
theorem so105 : Sp1 105 sp105 := ⟨so105_, Proofs.Tryd.f105, _, by kernel_rfl, rfl, by kernel_rfl⟩

theorem fn145 (n d : Int) (hn : 0 < n) (hd : 0 < d) (hf : n ≤ 1000000 ∧ d ≤ 1000000) : Fn P1 gl1 145 [iV n, iV d] (.val (.agg [.one (.int .i64 (lowN n d).1), .one (.int .i64 (lowN n d).2)])) true := by
  refine Fn.flat ?_ rfl
  refine fn_of false [] [] h145 0 Proofs.Tryd.f145 trivial trivial (by kernel_rfl) rfl (by kernel_rfl) rfl rfl rfl ?_
  rw [vc145]
  try simp only [splitB_iff, -eq_self]
  refine ⟨⟨(n.toNat, d.toNat), ⟨by dsimp only; omega, rfl⟩, by dsimp only; omega, by dsimp only; omega, rfl, rfl, rfl, rfl, trivial⟩, fun g hg => ⟨fun h => ?_, fun h => ?_⟩⟩
  · have h' : g.2 ≠ 0 := by simpa using h
    refine ⟨⟨by omega, by omega⟩, (g.2, g.1 % g.2), ⟨by dsimp only; omega, ?_⟩, by dsimp only; exact Nat.mod_lt _ (by omega), rfl, by dsimp only; omega, rfl, rfl, rfl, rfl, trivial⟩
    dsimp only
    rw [Nat.gcd_comm, ← Nat.gcd_rec, Nat.gcd_comm]
    exact hg.2
  · have h' : g.2 = 0 := by simpa using h
    have hg2 := hg.2
    rw [h', Nat.gcd_zero_right] at hg2
    have e : ((g.1 : Nat) : Int) = (Nat.gcd n.toNat d.toNat : Int) := by rw [hg2]
    have hpos : (0 : Int) < (Nat.gcd n.toNat d.toNat : Int) := by omega
    unfold lowN
    rw [e]
    have b1 := Int.ediv_nonneg (a := n) (b := (Nat.gcd n.toNat d.toNat : Int)) (by omega) (by omega)
    have b2 := Int.ediv_le_self (a := n) (Nat.gcd n.toNat d.toNat : Int) (by omega)
    have b3 := Int.ediv_nonneg (a := d) (b := (Nat.gcd n.toNat d.toNat : Int)) (by omega) (by omega)
    have b4 := Int.ediv_le_self (a := d) (Nat.gcd n.toNat d.toNat : Int) (by omega)
    exact ⟨⟨by omega, hpos, by simp only [fits]; omega⟩, ⟨by omega, hpos, by simp only [fits]; omega⟩, rfl, rfl, trivial⟩
theorem so145_ : SpecOk P1 gl1 145 sp145 := by
  intro vs ps r h hp
  simp only [sp145] at h
  split at h
  · cases h; exact fn145 _ _ (hp _ (.head _)) (hp _ (.tail _ (.head _))) (hp _ (.tail _ (.tail _ (.head _))))
  · cases h
theorem so145 : Sp1 145 sp145 := ⟨so145_, Proofs.Tryd.f145, _, by kernel_rfl, rfl, by kernel_rfl⟩

theorem fn103 (R : List Rl) (hl : R.length ≤ 1000000000) (hR : ∀ r ∈ R, r.2.2.length ≤ 1000000) : Fn P1 gl1 103 [.one (.sl rlT R)] (.val (iV (chkRs R))) true := by
  refine Fn.flat ?_ rfl
  refine fn_of false [(71, sp71), (79, sp79), (78, sp78)] [fb138, fb139, fb141] h103 3 Proofs.Tryd.f103 ⟨so71, so79, so78, trivial⟩ ⟨⟨by kernel_rfl, by kernel_rfl, _, rfl, by kernel_rfl⟩, ⟨by kernel_rfl, by kernel_rfl, _, rfl, by kernel_rfl⟩, ⟨by kernel_rfl, by kernel_rfl, _, rfl, by kernel_rfl⟩, trivial⟩ (by kernel_rfl) rfl (by kernel_rfl) rfl rfl rfl ?_
  rw [vc103]
  try simp only [splitB_iff, -eq_self]
  constructor
  · intro h
    have h8 : 8 < R.length := by have : (8 : Int) < (R.length : Int) := by simpa using h
                                 omega
    unfold chkRs
    rw [if_pos h8]
    exact ⟨rfl, trivial⟩
  · intro h
    have h8 : ¬ 8 < R.length := by have : ¬ (8 : Int) < (R.length : Int) := by simpa using h
                                   omega
    have hc : chkRs R = upTo (chkRl R) R.length := by unfold chkRs; rw [if_neg h8]
    rw [hc]
    refine ⟨⟨0, ⟨Nat.zero_le _, rfl⟩, rfl, rfl, rfl, rfl, trivial⟩, fun g hg => ⟨fun hlt => ?_, fun hge => ?_⟩⟩
    · have hlt' : g < R.length := by simpa using hlt
      have hT : (R.take g).length = g := by rw [List.length_take]; omega
      have fin : ∀ e : Int, e = chkRl R g → ((e != 0) = true → e = upTo (chkRl R) R.length ∧ True) ∧ ((e != 0) = false → fits .i64 ((g : Int) + 1) ∧ ∃ g', (g' ≤ R.length ∧ upTo (chkRl R) g' = 0) ∧ R.length - g' < R.length - g ∧ (g : Int) + 1 = (g' : Int) ∧ (R.length : Int) = (R.length : Int) ∧ R = R ∧ R = R ∧ True) := by
        rintro e rfl
        have h1 : upTo (chkRl R) (g + 1) = chkRl R g := by
          show (if upTo (chkRl R) g = 0 then _ else _) = _
          rw [if_pos hg.2]
        refine ⟨fun h => ⟨?_, trivial⟩, fun h => ⟨by simp only [fits]; omega, g + 1, ⟨hlt', ?_⟩, by omega, by simp, rfl, rfl, rfl, trivial⟩⟩
        · have hne : upTo (chkRl R) (g + 1) ≠ 0 := by rw [h1]; simpa using h
          have := upTo_stay hne (R.length - (g + 1))
          rw [show g + 1 + (R.length - (g + 1)) = R.length by omega, h1] at this
          exact this.symm
        · rw [h1]; simpa using h
      have hRg : (R.getD g ([], 0, [])).2.2.length ≤ 1000000 := hR _ (getD_mem hlt')
      refine ⟨by omega, by omega, ⟨0, Nat.zero_le _, rfl, rfl, rfl, rfl, rfl, rfl, rfl, trivial⟩, fun j hj => ⟨fun hjl => ?_, fun hjg => ?_⟩⟩
      · have hjl' : j < (R.take g).length := by simpa using hjl
        refine ⟨by omega, fun hq => ⟨hRg, by decide, fin _ ?_⟩, fun hq => ⟨by simp only [fits]; omega, j + 1, ?_, by omega, by simp, rfl, rfl, rfl, rfl, rfl, rfl, trivial⟩⟩
        · have := idxN_at hjl' (by simpa using hq)
          unfold chkRl dupR
          have hd : decide (idxN (R.getD g r0).1 (R.take g) < g) = true := by
            rw [decide_eq_true_eq]
            have : idxN (R.getD g r0).1 (R.take g) ≤ j := this
            omega
          have h0 : decide ((0 : Int) ≤ (j : Int)) = true := by simp
          rw [hd, h0]
          rfl
        · exact idxN_next hj hjl' (by simpa using hq)
      · have hjg' : ¬ j < (R.take g).length := by simpa using hjg
        refine ⟨hRg, by decide, fin _ ?_⟩
        unfold chkRl dupR
        have hj' : j ≤ idxN (R.getD g r0).1 (R.take g) := hj
        have hd : decide (idxN (R.getD g r0).1 (R.take g) < g) = false := by
          rw [decide_eq_false_iff_not]
          omega
        rw [hd]
        rfl
    · have hge' : ¬ g < R.length := by simpa using hge
      have : g = R.length := by omega
      rw [← this, hg.2]
      exact ⟨rfl, trivial⟩
theorem so103_ : SpecOk P1 gl1 103 sp103 := by
  intro vs ps r h hp
  simp only [sp103] at h
  split at h
  · cases h; exact fn103 _ (hp _ (.head _)) (hp _ (.tail _ (.head _)))
  · cases h
theorem so103 : Sp1 103 sp103 := ⟨so103_, Proofs.Tryd.f103, _, by kernel_rfl, rfl, by kernel_rfl⟩

theorem fn88 (R : List Rl) (L : List Ed) (hl : R.length ≤ 1000000000) (hL : EdsIn L) : Fn P1 gl1 88 [.one (.sl rlT R), .one (.sl edT L)] (.val (lsV (plTo L L.length) (begN L L.length) (mapR R R.length))) false := by
  refine fn_of false [(129, sp129)] [] h88 0 Proofs.Tryd.f88 ⟨so129, trivial⟩ trivial (by kernel_rfl) rfl (by kernel_rfl) rfl rfl rfl ?_
  rw [vc88]
  try simp only [splitB_iff, -eq_self]
  refine ⟨⟨0, Nat.zero_le _, rfl, rfl, rfl, rfl, rfl, rfl, rfl, rfl, trivial⟩, fun g hg => ⟨fun hlt => ?_, fun hge => ?_⟩⟩
  · have hlt' : g < R.length := by simpa using hlt
    exact ⟨by omega, by simp only [fits]; omega, g + 1, hlt', by omega, by simp, rfl, rfl, rfl, rfl, rfl, rfl, rfl, trivial⟩
  · have hge' : ¬ g < R.length := by simpa using hge
    have hgR : g = R.length := by have : g ≤ R.length := hg; omega
    subst hgR
    refine ⟨⟨0, Nat.zero_le _, rfl, rfl, rfl, rfl, rfl, rfl, rfl, rfl, rfl, trivial⟩, fun i hi => ⟨fun hlt => ?_, fun hge => ?_⟩⟩
    · have hlt' : i < L.length := by simpa using hlt
      have h16 := hL.1
      have hb := begN_bd hL i (by omega)
      have hb2 := begN_bd hL (i + 1) hlt'
      have hx := hL.2 _ (getD_mem (d := e0) hlt')
      have e2 : begN L (i + 1) = begN L i + ((L.getD i e0).2.2.1 - (L.getD i e0).2.1) := rfl
      refine ⟨by omega, by simp only [room, plTo_len]; omega, ?_, ?_, by simp only [fits]; omega, i + 1, hlt', by omega, by simp, rfl, rfl, rfl, rfl, rfl, rfl, rfl, rfl, trivial⟩
      · show fits .i64 ((L.getD i e0).2.2.1 - (L.getD i e0).2.1)
        simp only [fits]; omega
      · show fits .i64 (begN L i + ((L.getD i e0).2.2.1 - (L.getD i e0).2.1))
        rw [← e2]
        simp only [fits]; omega
    · have hge' : ¬ i < L.length := by simpa using hge
      have hiL : i = L.length := by have : i ≤ L.length := hi; omega
      subst hiL
      exact ⟨rfl, rfl, rfl, trivial⟩
theorem so88_ : SpecOk P1 gl1 88 sp88 := by
  intro vs ps r h hp
  simp only [sp88] at h
  split at h
  · cases h; exact fn88 _ _ (hp _ (.head _)) (hp _ (.tail _ (.head _)))
  · cases h
theorem so88 : Sp1 88 sp88 := ⟨so88_, Proofs.Tryd.f88, _, by kernel_rfl, rfl, by kernel_rfl⟩

end Go.Sx

/- Plain functions and hints. -/
namespace Go.Sx.U
def pl0 : Pl := (([], 0, 0, 0, 0), 0)
def rlOf (R : List Rl) (nm : List UInt8) : Rl := R.getD (idxN nm R) r0
def endR (r : Rl) : Int := r.2.1 + (r.2.2.length : Int)
def prs (x : Ed) : Int := first [within x.2.2.2.1 0 (x.2.2.1 - x.2.1), within x.2.2.2.2 (-100) 100]
/-- The error of an edit. -/
def chkE (R : List Rl) (x : Ed) (b : Option Ed) : Int :=
  if R.length ≤ idxN x.1 R then 10 else
  if x.2.2.1 ≤ x.2.1 ∨ x.2.1 < (rlOf R x.1).2.1 ∨ endR (rlOf R x.1) < x.2.2.1 then 14 else
  if prs x ≠ 0 then prs x else
  match b with
  | none => whenE (decide (x ≠ (x.1, x.2.1, x.2.2.1, 0, 0))) 21
  | some b => whenE (decide (endR (rlOf R b.1) < b.2.2.1 + x.2.2.2.1)) 16
def chkEd (R : List Rl) (L : List Ed) (i : Nat) : Int := chkE R (L.getD i e0) (if i = 0 then none else some (L.getD (i - 1) e0))
def sndN (x : Pl) : Int := x.2 + x.1.2.2.2.2
def begP (x : Pl) : Int := x.2
/-- The frames at which the sound of an edit is heard. -/
def heardN (p : List Pl) (n : Int) (i : Nat) : Int × Int := (sndN (p.getD i pl0), if i + 1 < p.length then sndN (p.getD (i + 1) pl0) else n)
def lastTo (g : Pl → Int) (p : List Pl) (fr : Int) : Nat → Nat
  | 0 => 0
  | i + 1 => if g (p.getD i pl0) ≤ fr then i else lastTo g p fr i
/-- What is heard at a frame. -/
def soundN (p : List Pl) (fr : Int) : Tk := ((p.getD (lastTo sndN p fr p.length) pl0).1.1, (p.getD (lastTo sndN p fr p.length) pl0).1.2.1 + fr - (p.getD (lastTo sndN p fr p.length) pl0).2, 1, 1)
/-- The takes at a frame of an edit, behind another one. -/
def takesE (x b : Ed) (j : Int) : List Tk :=
  if x.2.2.2.1 ≤ j then [(x.1, x.2.1 + j, 1, 1)] else
  [(b.1, b.2.2.1 + j, lowN (x.2.2.2.1 - j) (x.2.2.2.1 + 1)), (x.1, x.2.1 + j, lowN (j + 1) (x.2.2.2.1 + 1))]
def takesN (p : List Pl) (fr : Int) : List Tk :=
  takesE (p.getD (lastTo begP p fr p.length) pl0).1 (p.getD (lastTo begP p fr p.length - 1) pl0).1 (fr - (p.getD (lastTo begP p fr p.length) pl0).2)
/-- Placed edits that the numbers allow. -/
def PlsOk (p : List Pl) : Prop := 0 < p.length ∧ p.length ≤ 16 ∧ (∀ x ∈ p, (0 ≤ x.1.2.1 ∧ x.1.2.1 ≤ 10000000) ∧ (0 ≤ x.1.2.2.1 ∧ x.1.2.2.1 ≤ 10000000) ∧ (0 ≤ x.1.2.2.2.1 ∧ x.1.2.2.2.1 ≤ 100000) ∧ (-100 ≤ x.1.2.2.2.2 ∧ x.1.2.2.2.2 ≤ 100) ∧ (0 ≤ x.2 ∧ x.2 ≤ 100000)) ∧ (p.getD 0 pl0).2 = 0 ∧ (p.getD 0 pl0).1.2.2.2.1 = 0
end Go.Sx.U
namespace Go.Sx
open U
def h104 : Hints := ⟨fun f k s => match f, k with
  | 141, 2 => hFind s
  | _, _ => none, 0⟩
/-- The number that a function takes of a placed edit. -/
def hLast (s : St) : Option LInv := match listAs s 11 plT, intOfT s 1, lookT s.tm 2 with
  | some p, some fr, some (.val (.one (.fn 144 [] []))) => some ⟨Nat, fun i => s.at [0, 1, 2, 3, 11, 12] [tI 13 i, tI 7 (lastTo begP p fr i)], fun i => i ≤ List.length p, fun i => List.length p - i⟩
  | some p, some fr, some (.val (.one (.fn 105 [] []))) => some ⟨Nat, fun i => s.at [0, 1, 2, 3, 11, 12] [tI 13 i, tI 7 (lastTo sndN p fr i)], fun i => i ≤ List.length p, fun i => List.length p - i⟩
  | _, _, _ => none
def hLastH : Hints := ⟨fun f k s => match f, k with
  | 135, 3 => hLast s
  | _, _ => none, 0⟩
@[reducible] noncomputable def fb142 : Nat × Func := (142, Proofs.Tryd.f142)
@[reducible] noncomputable def fb144 : Nat × Func := (144, Proofs.Tryd.f144)
def sp135 : FSpec := ⟨fun vs => match vs with
  | [.agg [.one (.sl (.pair (.pair .str (.pair (.int .i64) (.pair (.int .i64) (.pair (.int .i64) (.int .i64))))) (.int .i64)) p), .one (.int .i64 _), .one (.mp false true .str (.pair .str (.pair (.int .i64) (.sl (.int .i64)))) _)], .one (.int .i64 fr), .one (.fn g [] [])] =>
    if g = 144 then some ([List.length p ≤ 1000000], .val (iV (lastTo begP p fr (List.length p)))) else
    if g = 105 then some ([List.length p ≤ 1000000, ∀ x ∈ (show List Pl from p), fits .i64 (sndN x)], .val (iV (lastTo sndN p fr (List.length p)))) else none
  | _ => none, true⟩
def sp104 : FSpec := ⟨fun vs => match vs with
  | [.one (.sl (.pair .str (.pair (.int .i64) (.sl (.int .i64)))) R), .one (.sl (.pair .str (.pair (.int .i64) (.pair (.int .i64) (.pair (.int .i64) (.int .i64))))) L), .one (.int .i64 i)] =>
    some ([chkRs R = 0, ((Int.toNat i : Nat) : Int) = i, Int.toNat i < List.length L, List.length L ≤ 1000000, 0 < Int.toNat i → chkEd R L (Int.toNat i - 1) = 0], .val (iV (chkEd R L (Int.toNat i))))
  | _ => none, true⟩
def sp106 : FSpec := ⟨fun vs => match vs with
  | [.agg [.one (.sl (.pair (.pair .str (.pair (.int .i64) (.pair (.int .i64) (.pair (.int .i64) (.int .i64))))) (.int .i64)) p), .one (.int .i64 n), .one (.mp false true .str (.pair .str (.pair (.int .i64) (.sl (.int .i64)))) _)], .one (.int .i64 i)] =>
    some ([((Int.toNat i : Nat) : Int) = i, Int.toNat i < List.length p, ∀ x ∈ (show List Pl from p), fits .i64 (sndN x), List.length p ≤ 1000000], .val (.agg [.one (.int .i64 (heardN p n (Int.toNat i)).1), .one (.int .i64 (heardN p n (Int.toNat i)).2)]))
  | _ => none, true⟩
def sp98 : FSpec := ⟨fun vs => match vs with
  | [.agg [.one (.sl (.pair (.pair .str (.pair (.int .i64) (.pair (.int .i64) (.pair (.int .i64) (.int .i64))))) (.int .i64)) p), .one (.int .i64 _), .one (.mp false true .str (.pair .str (.pair (.int .i64) (.sl (.int .i64)))) _)], .one (.int .i64 fr)] =>
    some ([PlsOk p, 0 ≤ fr ∧ fr ≤ 100000], .val (tkV (soundN p fr)))
  | _ => none, true⟩
def sp133 : FSpec := ⟨fun vs => match vs with
  | [.agg [.one (.sl (.pair (.pair .str (.pair (.int .i64) (.pair (.int .i64) (.pair (.int .i64) (.int .i64))))) (.int .i64)) p), .one (.int .i64 _), .one (.mp false true .str (.pair .str (.pair (.int .i64) (.sl (.int .i64)))) _)], .one (.int .i64 fr)] =>
    some ([PlsOk p, 0 ≤ fr ∧ fr ≤ 100000], .val (.one (.sl tkT (takesN p fr))))
  | _ => none, false⟩
end Go.Sx
namespace Go.Sx
open U
def sp140 : FSpec := ⟨fun vs => match vs with
  | [.one (.str nm), .one (.ref (.sl (.pair .str (.pair (.int .i64) (.sl (.int .i64))))) R)] => some ([List.length (show List Rl from R) ≤ 1000000000], .val (iV (if idxN nm R < List.length (show List Rl from R) then (idxN nm R : Int) else -1)))
  | _ => none, true⟩
end Go.Sx

/- What the engine asks, written out (printed by a program). -/
namespace Go.Sx
open U
theorem vc135 (p : List Pl) (n : Int) (m : List (List UInt8 × Rl)) (fr : Int) : exF (env false [] [fb144]) hLastH 3 135 Proofs.Tryd.f135 [lsV p n m, iV fr, .one (.fn 144 [] [])] (.val (iV (lastTo begP p fr p.length))) = (let q1 := (List.length p); let q0 := (↑q1 : Int); (∃ (g : Nat), Nat.le g q1 ∧ (0 : Int) = (↑g : Int) ∧ (0 : Int) = (↑(lastTo begP p fr g) : Int) ∧ q0 = q0 ∧ p = p ∧ p = p ∧ n = n ∧ m = m ∧ fr = fr ∧ p = p ∧ n = n ∧ m = m ∧ True) ∧ ∀ (g : Nat), Nat.le g q1 → splitB (decide ((↑g : Int) < q0)) (((0 : Int) ≤ (↑g : Int) ∧ (↑g : Int) < q0) ∧ splitB (decide ((List.getD p g (([], (0 : Int), (0 : Int), (0 : Int), (0 : Int)), (0 : Int))).2 ≤ fr)) (fits IntKind.i64 ((↑g : Int) + (1 : Int)) ∧ ∃ (g' : Nat), Nat.le g' q1 ∧ List.length p - g' < List.length p - g ∧ (↑g : Int) + (1 : Int) = (↑g' : Int) ∧ (↑g : Int) = (↑(lastTo begP p fr g') : Int) ∧ q0 = q0 ∧ p = p ∧ p = p ∧ n = n ∧ m = m ∧ fr = fr ∧ p = p ∧ n = n ∧ m = m ∧ True) (fits IntKind.i64 ((↑g : Int) + (1 : Int)) ∧ ∃ (g' : Nat), Nat.le g' q1 ∧ List.length p - g' < List.length p - g ∧ (↑g : Int) + (1 : Int) = (↑g' : Int) ∧ (↑(lastTo begP p fr g) : Int) = (↑(lastTo begP p fr g') : Int) ∧ q0 = q0 ∧ p = p ∧ p = p ∧ n = n ∧ m = m ∧ fr = fr ∧ p = p ∧ n = n ∧ m = m ∧ True)) ((↑(lastTo begP p fr g) : Int) = (↑(lastTo begP p fr q1) : Int) ∧ True)) := by
  kernel_rfl
theorem vc135b (p : List Pl) (n : Int) (m : List (List UInt8 × Rl)) (fr : Int) : exF (env false [(105, sp105)] []) hLastH 0 135 Proofs.Tryd.f135 [lsV p n m, iV fr, .one (.fn 105 [] [])] (.val (iV (lastTo sndN p fr p.length))) = (let q2 := (List.length p); let q1 := (↑q2 : Int); (∃ (g : Nat), Nat.le g q2 ∧ (0 : Int) = (↑g : Int) ∧ (0 : Int) = (↑(lastTo sndN p fr g) : Int) ∧ q1 = q1 ∧ p = p ∧ p = p ∧ n = n ∧ m = m ∧ fr = fr ∧ p = p ∧ n = n ∧ m = m ∧ True) ∧ ∀ (g : Nat), let q0 := (List.getD p g (([], (0 : Int), (0 : Int), (0 : Int), (0 : Int)), (0 : Int))); Nat.le g q2 → splitB (decide ((↑g : Int) < q1)) (((0 : Int) ≤ (↑g : Int) ∧ (↑g : Int) < q1) ∧ fits IntKind.i64 (q0.2 + q0.1.2.2.2.2) ∧ splitB (decide (q0.2 + q0.1.2.2.2.2 ≤ fr)) (fits IntKind.i64 ((↑g : Int) + (1 : Int)) ∧ ∃ (g' : Nat), Nat.le g' q2 ∧ List.length p - g' < List.length p - g ∧ (↑g : Int) + (1 : Int) = (↑g' : Int) ∧ (↑g : Int) = (↑(lastTo sndN p fr g') : Int) ∧ q1 = q1 ∧ p = p ∧ p = p ∧ n = n ∧ m = m ∧ fr = fr ∧ p = p ∧ n = n ∧ m = m ∧ True) (fits IntKind.i64 ((↑g : Int) + (1 : Int)) ∧ ∃ (g' : Nat), Nat.le g' q2 ∧ List.length p - g' < List.length p - g ∧ (↑g : Int) + (1 : Int) = (↑g' : Int) ∧ (↑(lastTo sndN p fr g) : Int) = (↑(lastTo sndN p fr g') : Int) ∧ q1 = q1 ∧ p = p ∧ p = p ∧ n = n ∧ m = m ∧ fr = fr ∧ p = p ∧ n = n ∧ m = m ∧ True)) ((↑(lastTo sndN p fr g) : Int) = (↑(lastTo sndN p fr q2) : Int) ∧ True)) := by
  kernel_rfl
theorem vc140 (nm : List UInt8) (R : List Rl) : exF (env false [] [fb142, fb141]) h104 3 140 Proofs.Tryd.f140 [.one (.str nm), .one (.ref (.sl rlT) R)] (.val (iV (if idxN nm R < R.length then (idxN nm R : Int) else -1))) = (let q0 := (↑(List.length R) : Int); (∃ (g : Nat), Nat.le g (idxN nm R) ∧ (0 : Int) = (↑g : Int) ∧ q0 = q0 ∧ R = R ∧ R = R ∧ nm = nm ∧ True) ∧ ∀ (g : Nat), Nat.le g (idxN nm R) → splitB (decide ((↑g : Int) < q0)) (((0 : Int) ≤ (↑g : Int) ∧ (↑g : Int) < q0) ∧ splitB ((List.getD R g ([], (0 : Int), [])).1 == nm) (((↑g : Int) = if idxN nm R < List.length R then (↑(idxN nm R) : Int) else (-1 : Int)) ∧ True) (fits IntKind.i64 ((↑g : Int) + (1 : Int)) ∧ ∃ (g' : Nat), Nat.le g' (idxN nm R) ∧ List.length R - g' < List.length R - g ∧ (↑g : Int) + (1 : Int) = (↑g' : Int) ∧ q0 = q0 ∧ R = R ∧ R = R ∧ nm = nm ∧ True)) (((-1 : Int) = if idxN nm R < List.length R then (↑(idxN nm R) : Int) else (-1 : Int)) ∧ True)) := by
  kernel_rfl
theorem vc104 (R : List Rl) (L : List Ed) (i : Nat) : exF (env false [(77, sp77), (129, sp129), (122, sp122), (78, sp78), (79, sp79), (140, sp140)] []) h0 0 104 Proofs.Tryd.f104 [.one (.sl rlT R), .one (.sl edT L), iV i] (.val (iV (chkEd R L i))) = (let q9 := ([], (0 : Int), (0 : Int), (0 : Int), (0 : Int)); let q0 := (List.getD L i q9); let q1 := (List.getD L (Int.toNat ((↑i : Int) - (1 : Int))) q9); let q4 := (if idxN q0.1 R < List.length R then (↑(idxN q0.1 R) : Int) else (-1 : Int)); let q2 := (List.getD R (Int.toNat q4) ([], (0 : Int), [])); let q6 := (if idxN q1.1 R < List.length R then (↑(idxN q1.1 R) : Int) else (-1 : Int)); let q3 := (List.getD R (Int.toNat q6) ([], (0 : Int), [])); let q5 := ((0 : Int) ≤ if idxN q0.1 R < List.length R then (↑(idxN q0.1 R) : Int) else (-1 : Int)); let q7 := (bif decide (q0.2.2.1 ≤ q0.2.1) then true else decide (q0.2.1 < q2.2.1)); let q8 := (Ty.int IntKind.i64); ((0 : Int) ≤ (↑i : Int) ∧ (↑i : Int) < (↑(List.length L) : Int)) ∧ List.length R ≤ (1000000000 : Nat) ∧ splitB (decide (q4 < (0 : Int))) ((10 : Int) = chkEd R L i ∧ True) ((decide (q0.2.2.1 ≤ q0.2.1) = false → q5 ∧ q4 < (↑(List.length R) : Int)) ∧ (q7 = false → q5 ∧ q4 < (↑(List.length R) : Int)) ∧ (q7 = false → fits IntKind.i64 (q2.2.1 + (↑(List.length q2.2.2) : Int))) ∧ splitB (bif bif decide (q0.2.2.1 ≤ q0.2.1) then true else decide (q0.2.1 < q2.2.1) then true else decide (q2.2.1 + (↑(List.length q2.2.2) : Int) < q0.2.2.1)) ((14 : Int) = chkEd R L i ∧ True) (fits IntKind.i64 (q0.2.2.1 - q0.2.1) ∧ (2 : Nat) ≤ (1000000000 : Nat) ∧ splitB (first [within q0.2.2.2.1 (0 : Int) (q0.2.2.1 - q0.2.1), within q0.2.2.2.2 (-100 : Int) (100 : Int)] != (0 : Int)) (first [within q0.2.2.2.1 (0 : Int) (q0.2.2.1 - q0.2.1), within q0.2.2.2.2 (-100 : Int) (100 : Int)] = chkEd R L i ∧ True) (splitB ((↑i : Int) == (0 : Int)) (whenE (!eqT (Ty.pair Ty.str (Ty.pair q8 (Ty.pair q8 (Ty.pair q8 q8)))) (q0.1, q0.2.1, q0.2.2.1, q0.2.2.2.1, q0.2.2.2.2) (q0.1, q0.2.1, q0.2.2.1, (0 : Int), (0 : Int))) (21 : Int) = chkEd R L i ∧ True) (fits IntKind.i64 ((↑i : Int) - (1 : Int)) ∧ ((0 : Int) ≤ (↑i : Int) - (1 : Int) ∧ (↑i : Int) - (1 : Int) < (↑(List.length L) : Int)) ∧ fits IntKind.i64 (q1.2.2.1 + q0.2.2.2.1) ∧ List.length R ≤ (1000000000 : Nat) ∧ (((0 : Int) ≤ if idxN q1.1 R < List.length R then (↑(idxN q1.1 R) : Int) else (-1 : Int)) ∧ q6 < (↑(List.length R) : Int)) ∧ fits IntKind.i64 (q3.2.1 + (↑(List.length q3.2.2) : Int)) ∧ whenE (decide (q3.2.1 + (↑(List.length q3.2.2) : Int) < q1.2.2.1 + q0.2.2.2.1)) (16 : Int) = chkEd R L i ∧ True))))) := by
  kernel_rfl
theorem vc106 (p : List Pl) (n : Int) (m : List (List UInt8 × Rl)) (i : Nat) : exF (env false [(105, sp105)] []) h0 0 106 Proofs.Tryd.f106 [lsV p n m, iV i] (.val (.agg [.one (.int .i64 (heardN p n i).1), .one (.int .i64 (heardN p n i).2)])) = (let q0 := (([], (0 : Int), (0 : Int), (0 : Int), (0 : Int)), (0 : Int)); let q1 := (List.getD p (Int.toNat ((↑i : Int) + (1 : Int))) q0); let q2 := (List.getD p i q0); ((0 : Int) ≤ (↑i : Int) ∧ (↑i : Int) < (↑(List.length p) : Int)) ∧ fits IntKind.i64 (q2.2 + q2.1.2.2.2.2) ∧ fits IntKind.i64 ((↑i : Int) + (1 : Int)) ∧ splitB (decide ((↑i : Int) + (1 : Int) < (↑(List.length p) : Int))) (fits IntKind.i64 ((↑i : Int) + (1 : Int)) ∧ ((0 : Int) ≤ (↑i : Int) + (1 : Int) ∧ (↑i : Int) + (1 : Int) < (↑(List.length p) : Int)) ∧ fits IntKind.i64 (q1.2 + q1.1.2.2.2.2) ∧ q2.2 + q2.1.2.2.2.2 = (heardN p n i).1 ∧ q1.2 + q1.1.2.2.2.2 = (heardN p n i).2 ∧ True) (q2.2 + q2.1.2.2.2.2 = (heardN p n i).1 ∧ n = (heardN p n i).2 ∧ True)) := by
  kernel_rfl
theorem vc98 (p : List Pl) (n : Int) (m : List (List UInt8 × Rl)) (fr : Int) : exF (env false [(135, sp135)] []) h0 0 98 Proofs.Tryd.f98 [lsV p n m, iV fr] (.val (tkV (soundN p fr))) = (let q1 := (lastTo sndN p fr (List.length p)); let q0 := (List.getD p q1 (([], (0 : Int), (0 : Int), (0 : Int), (0 : Int)), (0 : Int))); List.length p ≤ (1000000 : Nat) ∧ (∀ (x : Pl), x ∈ p → fits IntKind.i64 (sndN x)) ∧ ((0 : Int) ≤ (↑q1 : Int) ∧ (↑q1 : Int) < (↑(List.length p) : Int)) ∧ fits IntKind.i64 (q0.1.2.1 + fr) ∧ fits IntKind.i64 (q0.1.2.1 + fr - q0.2) ∧ q0.1.1 = (soundN p fr).1 ∧ q0.1.2.1 + fr - q0.2 = (soundN p fr).2.1 ∧ (1 : Int) = (soundN p fr).2.2.1 ∧ (1 : Int) = (soundN p fr).2.2.2 ∧ True) := by
  kernel_rfl
theorem vc133 (p : List Pl) (n : Int) (m : List (List UInt8 × Rl)) (fr : Int) : exF (env false [(145, sp145), (135, sp135)] []) h0 0 133 Proofs.Tryd.f133 [lsV p n m, iV fr] (.val (.one (.sl tkT (takesN p fr)))) = (let q4 := (([], (0 : Int), (0 : Int), (0 : Int), (0 : Int)), (0 : Int)); let q0 := (List.getD p (lastTo begP p fr (List.length p)) q4); let q2 := (↑(lastTo begP p fr (List.length p)) : Int); let q1 := (List.getD p (Int.toNat (q2 - (1 : Int))) q4); let q3 := (q0.1.2.2.2.1 + (1 : Int)); let q5 := (q0.1.2.2.2.1 - (fr - q0.2)); List.length p ≤ (1000000 : Nat) ∧ ((0 : Int) ≤ q2 ∧ q2 < (↑(List.length p) : Int)) ∧ fits IntKind.i64 (fr - q0.2) ∧ splitB (decide (q0.1.2.2.2.1 ≤ fr - q0.2)) (fits IntKind.i64 (q0.1.2.1 + (fr - q0.2)) ∧ [(q0.1.1, q0.1.2.1 + (fr - q0.2), (1 : Int), (1 : Int))] = takesN p fr ∧ True) (fits IntKind.i64 (q2 - (1 : Int)) ∧ ((0 : Int) ≤ q2 - (1 : Int) ∧ q2 - (1 : Int) < (↑(List.length p) : Int)) ∧ fits IntKind.i64 (q1.1.2.2.1 + (fr - q0.2)) ∧ fits IntKind.i64 q5 ∧ fits IntKind.i64 q3 ∧ (0 : Int) < q0.1.2.2.2.1 - (fr - q0.2) ∧ (0 : Int) < q0.1.2.2.2.1 + (1 : Int) ∧ (q0.1.2.2.2.1 - (fr - q0.2) ≤ (1000000 : Int) ∧ q0.1.2.2.2.1 + (1 : Int) ≤ (1000000 : Int)) ∧ fits IntKind.i64 (q0.1.2.1 + (fr - q0.2)) ∧ fits IntKind.i64 (fr - q0.2 + (1 : Int)) ∧ fits IntKind.i64 q3 ∧ (0 : Int) < fr - q0.2 + (1 : Int) ∧ (0 : Int) < q0.1.2.2.2.1 + (1 : Int) ∧ (fr - q0.2 + (1 : Int) ≤ (1000000 : Int) ∧ q0.1.2.2.2.1 + (1 : Int) ≤ (1000000 : Int)) ∧ [(q1.1.1, q1.1.2.2.1 + (fr - q0.2), (lowN q5 q3).1, (lowN q5 q3).2), (q0.1.1, q0.1.2.1 + (fr - q0.2), (lowN (fr - q0.2 + (1 : Int)) q3).1, (lowN (fr - q0.2 + (1 : Int)) q3).2)] = takesN p fr ∧ True)) := by
  kernel_rfl
end Go.Sx

/- Contracts. -/
namespace Go.Sx
open U
theorem lastTo_lt (g : Pl → Int) (p : List Pl) (fr : Int) : ∀ n, 0 < n → lastTo g p fr n < n
  | n + 1, _ => by
    simp only [lastTo]
    split
    · omega
    · cases n with
      | zero => exact Nat.zero_lt_one
      | succ n => have := lastTo_lt g p fr (n + 1) (by omega); omega
theorem lastTo_le {g : Pl → Int} {p : List Pl} {fr : Int} (h : g (p.getD 0 pl0) ≤ fr) : ∀ n, g (p.getD (lastTo g p fr n) pl0) ≤ fr
  | 0 => h
  | n + 1 => by
    simp only [lastTo]
    split
    · assumption
    · exact lastTo_le h n
theorem fn135 (p : List Pl) (n : Int) (m : List (List UInt8 × Rl)) (fr : Int) (hp : p.length ≤ 1000000) : Fn P1 gl1 135 [lsV p n m, iV fr, .one (.fn 144 [] [])] (.val (iV (lastTo begP p fr p.length))) true := by
  refine Fn.flat ?_ rfl
  refine fn_of false [] [fb144] hLastH 3 Proofs.Tryd.f135 trivial ⟨⟨by kernel_rfl, by kernel_rfl, _, rfl, by kernel_rfl⟩, trivial⟩ (by kernel_rfl) rfl (by kernel_rfl) rfl rfl rfl ?_
  rw [vc135]
  try simp only [splitB_iff, -eq_self]
  refine ⟨⟨0, Nat.zero_le _, rfl, rfl, by simp⟩, fun g hg => ⟨fun hlt => ?_, fun hge => ?_⟩⟩
  · have hlt' : g < p.length := by simpa using hlt
    refine ⟨by omega, fun h => ⟨by simp only [fits]; omega, g + 1, hlt', by omega, by simp, ?_, by simp⟩, fun h => ⟨by simp only [fits]; omega, g + 1, hlt', by omega, by simp, ?_, by simp⟩⟩
    · have h' : begP (p.getD g pl0) ≤ fr := of_decide_eq_true h
      simp only [lastTo]
      rw [if_pos h']
    · have h' : ¬ begP (p.getD g pl0) ≤ fr := of_decide_eq_false h
      simp only [lastTo]
      rw [if_neg h']
  · have hge' : ¬ g < p.length := by simpa using hge
    have : g = p.length := by have : g ≤ p.length := hg
                              omega
    subst this
    exact ⟨rfl, trivial⟩
theorem fn135b (p : List Pl) (n : Int) (m : List (List UInt8 × Rl)) (fr : Int) (hp : p.length ≤ 1000000) (hs : ∀ x ∈ p, fits .i64 (sndN x)) : Fn P1 gl1 135 [lsV p n m, iV fr, .one (.fn 105 [] [])] (.val (iV (lastTo sndN p fr p.length))) true := by
  refine Fn.flat ?_ rfl
  refine fn_of false [(105, sp105)] [] hLastH 0 Proofs.Tryd.f135 ⟨so105, trivial⟩ trivial (by kernel_rfl) rfl (by kernel_rfl) rfl rfl rfl ?_
  rw [vc135b]
  try simp only [splitB_iff, -eq_self]
  refine ⟨⟨0, Nat.zero_le _, rfl, rfl, by simp⟩, fun g hg => ⟨fun hlt => ?_, fun hge => ?_⟩⟩
  · have hlt' : g < p.length := by simpa using hlt
    refine ⟨by omega, hs _ (getD_mem hlt'), fun h => ⟨by simp only [fits]; omega, g + 1, hlt', by omega, by simp, ?_, by simp⟩, fun h => ⟨by simp only [fits]; omega, g + 1, hlt', by omega, by simp, ?_, by simp⟩⟩
    · have h' : sndN (p.getD g pl0) ≤ fr := of_decide_eq_true h
      simp only [lastTo]
      rw [if_pos h']
    · have h' : ¬ sndN (p.getD g pl0) ≤ fr := of_decide_eq_false h
      simp only [lastTo]
      rw [if_neg h']
  · have hge' : ¬ g < p.length := by simpa using hge
    have : g = p.length := by have : g ≤ p.length := hg
                              omega
    subst this
    exact ⟨rfl, trivial⟩
theorem so135_ : SpecOk P1 gl1 135 sp135 := by
  intro vs ps r h hp
  simp only [sp135] at h
  split at h
  · split at h
    · rename_i e; subst e; cases h
      exact fn135 _ _ _ _ (hp _ (.head _))
    · split at h
      · rename_i e; subst e; cases h
        exact fn135b _ _ _ _ (hp _ (.head _)) (hp _ (.tail _ (.head _)))
      · cases h
  · cases h
theorem so135 : Sp1 135 sp135 := ⟨so135_, Proofs.Tryd.f135, _, by kernel_rfl, rfl, by kernel_rfl⟩

theorem fn140 (nm : List UInt8) (R : List Rl) (hR : R.length ≤ 1000000000) : Fn P1 gl1 140 [.one (.str nm), .one (.ref (.sl rlT) R)] (.val (iV (if idxN nm R < R.length then (idxN nm R : Int) else -1))) true := by
  refine Fn.flat ?_ rfl
  refine fn_of false [] [fb142, fb141] h104 3 Proofs.Tryd.f140 trivial ⟨⟨by kernel_rfl, by kernel_rfl, _, rfl, by kernel_rfl⟩, ⟨by kernel_rfl, by kernel_rfl, _, rfl, by kernel_rfl⟩, trivial⟩ (by kernel_rfl) rfl (by kernel_rfl) rfl rfl rfl ?_
  rw [vc140]
  try simp only [splitB_iff, -eq_self]
  refine ⟨⟨0, Nat.zero_le _, rfl, rfl, by simp⟩, fun g hg => ⟨fun hlt => ?_, fun hge => ?_⟩⟩
  · have hlt' : g < R.length := by simpa using hlt
    refine ⟨by omega, fun h => ⟨?_, trivial⟩, fun h => ⟨by simp only [fits]; omega, g + 1, ?_, by omega, by simp, by simp⟩⟩
    · have h1 := idxN_at hlt' (by simpa using h)
      have h2 : g ≤ idxN nm R := hg
      have e : idxN nm R = g := by omega
      rw [e, if_pos hlt']
    · exact idxN_next hg hlt' (by simpa using h)
  · have hge' : ¬ g < R.length := by simpa using hge
    have h2 : g ≤ idxN nm R := hg
    rw [if_neg (by omega)]
    exact ⟨rfl, trivial⟩
theorem so140_ : SpecOk P1 gl1 140 sp140 := by
  intro vs ps r h hp
  simp only [sp140] at h
  split at h
  · cases h; exact fn140 _ _ (hp _ (.head _))
  · cases h
theorem so140 : Sp1 140 sp140 := ⟨so140_, Proofs.Tryd.f140, _, by kernel_rfl, rfl, by kernel_rfl⟩

theorem rs_at {R : List Rl} (h : chkRs R = 0) : R.length ≤ 8 ∧ ∀ r ∈ R, ReelOk r.1 r.2.1 r.2.2 := by
  unfold chkRs at h
  split at h
  · cases h
  · refine ⟨by omega, fun r hr => ?_⟩
    obtain ⟨i, hi, rfl⟩ := List.mem_iff_getElem.1 hr
    have key : ∀ n, upTo (chkRl R) n = 0 → ∀ j, j < n → chkRl R j = 0 := by
      intro n
      induction n with
      | zero => intro _ j hj; omega
      | succ n ih =>
        intro h0 j hj
        simp only [upTo] at h0
        split at h0
        · rename_i h1
          by_cases e : j = n
          · subst e; exact h0
          · exact ih h1 j (by omega)
        · rename_i h1; exact absurd h0 h1
    have h2 := (first_zero_iff _).1 (key _ h i hi) _ (List.mem_cons_self)
    rw [getD_of hi] at h2
    exact checkReel_zero.1 h2
theorem chkE_ok {R : List Rl} {x : Ed} {b : Option Ed} (h : chkE R x b = 0) : idxN x.1 R < R.length ∧ (rlOf R x.1).2.1 ≤ x.2.1 ∧ x.2.1 < x.2.2.1 ∧ x.2.2.1 ≤ endR (rlOf R x.1) ∧ (0 ≤ x.2.2.2.1 ∧ x.2.2.2.1 ≤ x.2.2.1 - x.2.1) ∧ (-100 ≤ x.2.2.2.2 ∧ x.2.2.2.2 ≤ 100) := by
  unfold chkE at h
  split at h
  · cases h
  · split at h
    · cases h
    · split at h
      · rename_i h1; exact absurd h h1
      · rename_i h1 h2 h3
        have hp := (first_zero_iff _).1 (show prs x = 0 from Classical.byContradiction h3)
        have p1 := within_zero.1 (hp _ (List.mem_cons_self))
        have p2 := within_zero.1 (hp _ (List.mem_cons_of_mem _ List.mem_cons_self))
        exact ⟨by omega, by omega, by omega, by omega, p1, p2⟩
theorem fn104 (R : List Rl) (L : List Ed) (i : Nat) (hR : chkRs R = 0) (hi : i < L.length) (hL : L.length ≤ 1000000) (hb : 0 < i → chkEd R L (i - 1) = 0) : Fn P1 gl1 104 [.one (.sl rlT R), .one (.sl edT L), iV i] (.val (iV (chkEd R L i))) true := by
  refine Fn.flat ?_ rfl
  refine fn_of false [(77, sp77), (129, sp129), (122, sp122), (78, sp78), (79, sp79), (140, sp140)] [] h0 0 Proofs.Tryd.f104 ⟨so77, so129, so122, so78, so79, so140, trivial⟩ trivial (by kernel_rfl) rfl (by kernel_rfl) rfl rfl rfl ?_
  rw [vc104]
  try simp only [splitB_iff, -eq_self]
  obtain ⟨h8, hro⟩ := rs_at hR
  have hx : L.getD i ([], 0, 0, 0, 0) = L.getD i e0 := rfl
  rw [hx]
  generalize hX : L.getD i e0 = x at *
  have hE : chkEd R L i = chkE R x (if i = 0 then none else some (L.getD (i - 1) e0)) := by unfold chkEd; rw [hX]
  rw [hE]
  have hend : ∀ nm : List UInt8, idxN nm R < R.length → (0 ≤ (rlOf R nm).2.1 ∧ (rlOf R nm).2.1 ≤ 10000000) ∧ 0 ≤ endR (rlOf R nm) ∧ endR (rlOf R nm) ≤ 10000000 := by
    intro nm h
    have hr := hro _ (getD_mem (d := r0) h)
    have h1 := hr.start
    have h2 := hr.fin
    simp only [rlOf, endR]
    omega
  by_cases hk : idxN x.1 R < R.length
  · have hn := hend _ hk
    have hkk : ((idxN x.1 R : Nat) : Int).toNat = idxN x.1 R := by omega
    have hrl : R.getD (idxN x.1 R) ([], 0, []) = rlOf R x.1 := rfl
    rw [if_pos hk, hkk, hrl]
    generalize hrr : rlOf R x.1 = r at *
    refine ⟨by omega, by omega, fun h => ?_, fun _ => ⟨fun _ => by omega, fun _ => by omega, fun _ => ?_, fun h => ?_, fun h => ?_⟩⟩
    · have := of_decide_eq_true h
      omega
    · show fits .i64 (endR r)
      simp only [fits]; omega
    · simp only [bcond_l, Bool.or_eq_true, decide_eq_true_eq] at h
      have hc : x.2.2.1 ≤ x.2.1 ∨ x.2.1 < r.2.1 ∨ endR r < x.2.2.1 := by unfold endR; omega
      unfold chkE
      rw [if_neg (by omega), hrr, if_pos hc]
      exact ⟨rfl, trivial⟩
    · simp only [bcond_l, Bool.or_eq_false_iff, decide_eq_false_iff_not] at h
      have hc : ¬ (x.2.2.1 ≤ x.2.1 ∨ x.2.1 < r.2.1 ∨ endR r < x.2.2.1) := by unfold endR; omega
      have hchk : ∀ b, chkE R x b = if prs x ≠ 0 then prs x else match b with
          | none => whenE (decide (x ≠ (x.1, x.2.1, x.2.2.1, 0, 0))) 21
          | some b => whenE (decide (endR (rlOf R b.1) < b.2.2.1 + x.2.2.2.1)) 16 := by
        intro b
        conv => lhs; unfold chkE
        rw [if_neg (by omega), hrr, if_neg hc]
        all_goals (cases b <;> rfl)
      have hp : first [within x.2.2.2.1 0 (x.2.2.1 - x.2.1), within x.2.2.2.2 (-100) 100] = prs x := rfl
      rw [hp]
      refine ⟨by simp only [fits]; omega, by decide, fun h2 => ⟨?_, trivial⟩, fun h2 => ⟨fun h3 => ⟨?_, trivial⟩, fun h3 => ?_⟩⟩
      · rw [hchk, if_pos (by simpa using h2)]
      · have i0 : i = 0 := by have : (i : Int) = 0 := by simpa using h3
                              omega
        rw [hchk, if_neg (show ¬ prs x ≠ 0 by simpa using h2), if_pos i0]
        dsimp only
        congr 1
        rw [Bool.eq_iff_iff, Bool.not_eq_true', decide_eq_true_eq, ← Bool.not_eq_true, eqT_key rfl]
      · have i0 : i ≠ 0 := by have : ¬ (i : Int) = 0 := by simpa using h3
                              omega
        have e1 : ((i : Int) - 1).toNat = i - 1 := by omega
        have hy : L.getD (i - 1) ([], 0, 0, 0, 0) = L.getD (i - 1) e0 := rfl
        rw [hchk, if_neg (show ¬ prs x ≠ 0 by simpa using h2), if_neg i0, e1, hy]
        have hok := chkE_ok (hb (by omega))
        generalize L.getD (i - 1) e0 = y at *
        have hny := hend _ hok.1
        have hky : ((idxN y.1 R : Nat) : Int).toNat = idxN y.1 R := by omega
        have hrly : R.getD (idxN y.1 R) ([], 0, []) = rlOf R y.1 := rfl
        have hpz := (first_zero_iff _).1 (show prs x = 0 by simpa using h2)
        have p1 := within_zero.1 (hpz _ (List.mem_cons_self))
        rw [if_pos hok.1, hky, hrly]
        refine ⟨by simp only [fits]; omega, by omega, by simp only [fits]; omega, by omega, by omega, ?_, rfl, trivial⟩
        show fits .i64 (endR (rlOf R y.1))
        simp only [fits]; omega
  · rw [if_neg hk]
    refine ⟨by omega, by omega, fun _ => ⟨?_, trivial⟩, fun h => ?_⟩
    · unfold chkE
      rw [if_pos (by omega)]
    · have := of_decide_eq_false h
      omega

theorem fn106 (p : List Pl) (n : Int) (m : List (List UInt8 × Rl)) (i : Nat) (hi : i < p.length) (hp : ∀ x ∈ p, fits .i64 (sndN x)) (hl : p.length ≤ 1000000) : Fn P1 gl1 106 [lsV p n m, iV i] (.val (.agg [.one (.int .i64 (heardN p n i).1), .one (.int .i64 (heardN p n i).2)])) true := by
  refine Fn.flat ?_ rfl
  refine fn_of false [(105, sp105)] [] h0 0 Proofs.Tryd.f106 ⟨so105, trivial⟩ trivial (by kernel_rfl) rfl (by kernel_rfl) rfl rfl rfl ?_
  rw [vc106]
  try simp only [splitB_iff, -eq_self]
  have e1 : ((i : Int) + 1).toNat = i + 1 := by omega
  have f1 : ∀ j, j < p.length → fits .i64 (sndN (p.getD j pl0)) := fun j hj => hp _ (getD_mem hj)
  refine ⟨by omega, f1 i hi, by simp only [fits]; omega, fun h => ?_, fun h => ?_⟩
  · have h' : i + 1 < p.length := by have : (i : Int) + 1 < (p.length : Int) := by simpa using h
                                     omega
    rw [e1]
    refine ⟨by simp only [fits]; omega, by omega, f1 (i + 1) h', rfl, ?_, trivial⟩
    unfold heardN
    rw [if_pos h']
    rfl
  · have h' : ¬ i + 1 < p.length := by have : ¬ (i : Int) + 1 < (p.length : Int) := by simpa using h
                                       omega
    refine ⟨rfl, ?_, trivial⟩
    unfold heardN
    rw [if_neg h']

theorem fn98 (p : List Pl) (n : Int) (m : List (List UInt8 × Rl)) (fr : Int) (hp : PlsOk p) (hf : 0 ≤ fr ∧ fr ≤ 100000) : Fn P1 gl1 98 [lsV p n m, iV fr] (.val (tkV (soundN p fr))) true := by
  refine Fn.flat ?_ rfl
  refine fn_of false [(135, sp135)] [] h0 0 Proofs.Tryd.f98 ⟨so135, trivial⟩ trivial (by kernel_rfl) rfl (by kernel_rfl) rfl rfl rfl ?_
  rw [vc98]
  try simp only [-eq_self]
  obtain ⟨h0, h16, hx, _, _⟩ := hp
  have hl := lastTo_lt sndN p fr p.length h0
  have hk := hx _ (getD_mem (d := pl0) hl)
  refine ⟨by omega, fun x h => ?_, by omega, ?_, ?_, rfl, rfl, rfl, rfl, trivial⟩
  · have := hx x h
    simp only [fits, sndN]; omega
  · show fits .i64 ((p.getD (lastTo sndN p fr p.length) pl0).1.2.1 + fr)
    simp only [fits]; omega
  · show fits .i64 ((p.getD (lastTo sndN p fr p.length) pl0).1.2.1 + fr - (p.getD (lastTo sndN p fr p.length) pl0).2)
    simp only [fits]; omega

theorem fn133 (p : List Pl) (n : Int) (m : List (List UInt8 × Rl)) (fr : Int) (hp : PlsOk p) (hf : 0 ≤ fr ∧ fr ≤ 100000) : Fn P1 gl1 133 [lsV p n m, iV fr] (.val (.one (.sl tkT (takesN p fr)))) false := by
  refine fn_of false [(145, sp145), (135, sp135)] [] h0 0 Proofs.Tryd.f133 ⟨so145, so135, trivial⟩ trivial (by kernel_rfl) rfl (by kernel_rfl) rfl rfl rfl ?_
  rw [vc133]
  try simp only [splitB_iff, -eq_self]
  obtain ⟨h0, h16, hx, hb0, hf0⟩ := hp
  have hl := lastTo_lt begP p fr p.length h0
  have hle : begP (p.getD (lastTo begP p fr p.length) pl0) ≤ fr := lastTo_le (by show (p.getD 0 pl0).2 ≤ fr; omega) _
  have hk := hx _ (getD_mem (d := pl0) hl)
  have hT : takesN p fr = takesE (p.getD (lastTo begP p fr p.length) pl0).1 (p.getD (lastTo begP p fr p.length - 1) pl0).1 (fr - (p.getD (lastTo begP p fr p.length) pl0).2) := rfl
  rw [hT]
  generalize lastTo begP p fr p.length = k at *
  change (p.getD k pl0).2 ≤ fr at hle
  change _ ∧ _ ∧ fits .i64 (fr - (p.getD k pl0).2) ∧ _
  refine ⟨by omega, by omega, by simp only [fits]; omega, fun h => ?_, fun h => ?_⟩
  · have h' : (p.getD k pl0).1.2.2.2.1 ≤ fr - (p.getD k pl0).2 := of_decide_eq_true h
    refine ⟨?_, ?_, trivial⟩
    · show fits .i64 ((p.getD k pl0).1.2.1 + (fr - (p.getD k pl0).2))
      simp only [fits]; omega
    · unfold takesE
      rw [if_pos h']
      rfl
  · have h' : ¬ (p.getD k pl0).1.2.2.2.1 ≤ fr - (p.getD k pl0).2 := of_decide_eq_false h
    have hk1 : 0 < k := by
      apply Nat.pos_of_ne_zero
      rintro rfl
      omega
    have e1 : ((k : Int) - 1).toNat = k - 1 := by omega
    have hb := hx _ (getD_mem (d := pl0) (show k - 1 < p.length by omega))
    rw [e1, show ((([], 0, 0, 0, 0), 0) : Pl) = pl0 from rfl]
    unfold takesE
    rw [if_neg h']
    refine ⟨?_, ?_, ?_, ?_, ?_, ?_, ?_, ?_, ?_, ?_, ?_, ?_, ?_, ?_, ?_⟩ <;> first | omega | (simp only [fits]; omega) | trivial | skip
theorem so104_ : SpecOk P1 gl1 104 sp104 := by
  intro vs ps r h hp
  simp only [sp104] at h
  split at h
  · cases h
    have e := (hp _ (.tail _ (.head _)))
    have := fn104 _ _ _ (hp _ (.head _)) (hp _ (.tail _ (.tail _ (.head _)))) (hp _ (.tail _ (.tail _ (.tail _ (.head _))))) (hp _ (.tail _ (.tail _ (.tail _ (.tail _ (.head _))))))
    rwa [e] at this
  · cases h
theorem so104 : Sp1 104 sp104 := ⟨so104_, Proofs.Tryd.f104, _, by kernel_rfl, rfl, by kernel_rfl⟩
theorem so106_ : SpecOk P1 gl1 106 sp106 := by
  intro vs ps r h hp
  simp only [sp106] at h
  split at h
  · cases h
    rename_i p n m i
    have e := (hp _ (.head _))
    have := fn106 p n m _ (hp _ (.tail _ (.head _))) (hp _ (.tail _ (.tail _ (.head _)))) (hp _ (.tail _ (.tail _ (.tail _ (.head _)))))
    rwa [e] at this
  · cases h
theorem so106 : Sp1 106 sp106 := ⟨so106_, Proofs.Tryd.f106, _, by kernel_rfl, rfl, by kernel_rfl⟩
theorem so98_ : SpecOk P1 gl1 98 sp98 := by
  intro vs ps r h hp
  simp only [sp98] at h
  split at h
  · cases h
    exact fn98 _ _ _ _ (hp _ (.head _)) (hp _ (.tail _ (.head _)))
  · cases h
theorem so98 : Sp1 98 sp98 := ⟨so98_, Proofs.Tryd.f98, _, by kernel_rfl, rfl, by kernel_rfl⟩
theorem so133_ : SpecOk P1 gl1 133 sp133 := by
  intro vs ps r h hp
  simp only [sp133] at h
  split at h
  · cases h
    exact fn133 _ _ _ _ (hp _ (.head _)) (hp _ (.tail _ (.head _)))
  · cases h
theorem so133 : Sp1 133 sp133 := ⟨so133_, Proofs.Tryd.f133, _, by kernel_rfl, rfl, by kernel_rfl⟩

end Go.Sx

/- Plain functions and hints. -/
namespace Go.Sx.U
abbrev Mp := List (List UInt8 × Rl)
def tk0 : Tk := ([], 0, 0, 0)
/-- The edits with their beginnings; the length of a list. -/
def ls (L : List Ed) : List Pl := plTo L L.length
def lenL (L : List Ed) : Int := begN L L.length
/-- What a map of reels has at a name. -/
def rlM (m : Mp) (nm : List UInt8) : Rl := (U.mapGet .str (.pair .str (.pair (.int .i64) (.sl (.int .i64)))) m nm).getD ([], 0, [])
def ordE (p : List Pl) (n : Int) (i : Nat) : Int := whenE (decide (0 < i ∧ (sndN (p.getD i pl0) ≤ sndN (p.getD (i - 1) pl0) ∨ n ≤ sndN (p.getD i pl0)))) 11
def spE (m : Mp) (p : List Pl) (n : Int) (i : Nat) : Int := whenE (decide ((p.getD i pl0).1.2.1 + (heardN p n i).1 - (p.getD i pl0).2 < (rlM m (p.getD i pl0).1.1).2.1 ∨ endR (rlM m (p.getD i pl0).1.1) < (p.getD i pl0).1.2.1 + (heardN p n i).2 - (p.getD i pl0).2)) 16
/-- The error of reels and edits. -/
def chkEds (R : List Rl) (L : List Ed) : Int :=
  if chkRs R ≠ 0 then chkRs R else
  if 16 < L.length then 5 else
  if upTo (chkEd R L) L.length ≠ 0 then upTo (chkEd R L) L.length else
  if 1024 < lenL L then 4 else
  if upTo (ordE (ls L) (lenL L)) L.length ≠ 0 then 11 else
  upTo (spE (mapR R R.length) (ls L) (lenL L)) L.length
def startsN (R : List Rl) (L : List Ed) : List Int := if chkEds R L = 0 then (ls L).map fun x => x.2 else []
def lenN (R : List Rl) (L : List Ed) : Int := if chkEds R L = 0 then lenL L else 0
def soundsN (R : List Rl) (L : List Ed) : List Tk := if chkEds R L = 0 then (List.range (lenL L).toNat).map (fun t : Nat => soundN (ls L) t) else []
def confN (R : List Rl) (L : List Ed) : List (List Tk) := if chkEds R L = 0 then (List.range (lenL L).toNat).map (fun t : Nat => takesN (ls L) t) else []
/-- The sum of the checks of takes, and by what it is divided. -/
def mixTo (m : Mp) (ts : List Tk) : Nat → Int × Int
  | 0 => (0, 1)
  | j + 1 => ((mixTo m ts j).1 * (ts.getD j tk0).2.2.2 + (rlM m (ts.getD j tk0).1).2.2.getD ((ts.getD j tk0).2.1 - (rlM m (ts.getD j tk0).1).2.1).toNat 0 * (ts.getD j tk0).2.2.1 * (mixTo m ts j).2, (mixTo m ts j).2 * (ts.getD j tk0).2.2.2)
def mixN (m : Mp) (ts : List Tk) : Int := (2 * (mixTo m ts ts.length).1 + (mixTo m ts ts.length).2) / (2 * (mixTo m ts ts.length).2)
def playN (R : List Rl) (L : List Ed) : List Int := if chkEds R L = 0 then (List.range (lenL L).toNat).map (fun t : Nat => mixN (mapR R R.length) (takesN (ls L) t)) else []
/-- The error of a change. -/
def chkCh (R : List Rl) (L : List Ed) (i by_ least : Int) : Int :=
  if chkEds R L ≠ 0 then chkEds R L else first [whenE (decide (i < 0 ∨ (L.length : Int) ≤ i)) 10, within by_ (-10000000) 10000000, whenE (decide (i < least)) 21]
def trimL (L : List Ed) (i : Nat) (by_ : Int) : List Ed := L.set i ((L.getD i e0).1, (L.getD i e0).2.1, (L.getD i e0).2.2.1 + by_, (L.getD i e0).2.2.2.1, (L.getD i e0).2.2.2.2)
def frontL (L : List Ed) (i : Nat) (by_ : Int) : List Ed := L.set i ((L.getD i e0).1, (L.getD i e0).2.1 + by_, (L.getD i e0).2.2.1, (L.getD i e0).2.2.2.1, (L.getD i e0).2.2.2.2)
def rollL (L : List Ed) (i : Nat) (by_ : Int) : List Ed := frontL (trimL L (i - 1) by_) i by_
def slipL (L : List Ed) (i : Nat) (by_ : Int) : List Ed := trimL (frontL L i by_) i by_
/-- A changed list, and the error. -/
def chgE (R : List Rl) (L : List Ed) (i by_ least : Int) (g : List Ed → Nat → Int → List Ed) : Int := if chkCh R L i by_ least ≠ 0 then chkCh R L i by_ least else chkEds R (g L i.toNat by_)
def chgL (R : List Rl) (L : List Ed) (i by_ least : Int) (g : List Ed → Nat → Int → List Ed) : List Ed := if chgE R L i by_ least g = 0 then g L i.toNat by_ else []
end Go.Sx.U
namespace Go.Sx
open U
/-- The list in a box. -/
def lsAt (s : St) (t : Nat) : Option (List Pl × Int × Mp) := match ptrId s t with
  | some b => match lookO s.ob b with
    | some (.box [.one (.sl (.pair (.pair .str (.pair (.int .i64) (.pair (.int .i64) (.pair (.int .i64) (.int .i64))))) (.int .i64)) p), .one (.int .i64 n), .one (.mp false true .str (.pair .str (.pair (.int .i64) (.sl (.int .i64)))) m)]) => some (p, n, m)
    | _ => none
  | none => none
def h43 : Hints := ⟨fun f k s => match f, k with
  | 43, 5 => match listAs s 0 rlT, listAs s 1 edT with
    | some R, some L => some ⟨Nat, fun i => s.at [0, 1, 27] [tI 28 i], fun i => i ≤ List.length L ∧ upTo (chkEd R L) i = 0, fun i => List.length L - i⟩
    | _, _ => none
  | 43, 15 => match lsAt s 8 with
    | some (p, n, _) => some ⟨Nat, fun i => s.at [0, 1, 8, 46, 47] [tI 48 i], fun i => i ≤ List.length p ∧ upTo (ordE p n) i = 0, fun i => List.length p - i⟩
    | _ => none
  | 43, 21 => match lsAt s 8 with
    | some (p, n, m) => some ⟨Nat, fun i => s.at [0, 1, 8, 76, 77] [tI 78 i], fun i => i ≤ List.length p ∧ upTo (spE m p n) i = 0, fun i => List.length p - i⟩
    | _ => none
  | _, _ => none, 0⟩
def h89 : Hints := ⟨fun f k s => match f, k with
  | 89, 3 => hMapI plT (fun x => x.2) 8 9 10 5 [1] s
  | _, _ => none, 0⟩
def h40 : Hints := ⟨fun f k s => match f, k with
  | 40, 7 => match lsAt s 7 with
    | some (p, n, _) => some ⟨Nat, fun i => ⟨[tI 21 i, (8, .val (.one (.own s.nx)))] ++ keepT [0, 1, 7, 20] s.tm, (s.nx, some (.row tkT ((List.range i).map (fun t : Nat => soundN p t)))) :: lessO s [8], s.nx + 1, s.lr⟩, fun i => i ≤ n.toNat, fun i => n.toNat - i⟩
    | _ => none
  | _, _ => none, 0⟩
/-- The box with a row of the call's own, or with none yet. -/
def outB : List (Nat × Option AObj) → Option (Nat × List Nat)
  | [] => none
  | (i, some (.box [.one .nils])) :: _ => some (i, [])
  | (i, some (.box [.one (.own j)])) :: _ => some (i, [j])
  | _ :: r => outB r
/-- The loop over the frames of a list, of each of which something is kept. -/
def hFrames (u : Ty) (g : List Pl → Mp → Nat → u.T) (s : St) : Option LInv := match lsAt s 1, outB (liveO [] s.ob) with
  | some (p, n, m), some (b, js) => some ⟨Nat, fun i => ⟨tI 6 i :: keepT [0, 1, 5] s.tm, (b, some (.box [.one (.own s.nx)])) :: (s.nx, some (.row u ((List.range i).map (g p m)))) :: (liveO [] s.ob).filter (fun x => x.1 != b && !(js.contains x.1)), s.nx + 1, s.lr⟩, fun i => i ≤ n.toNat, fun i => n.toNat - i⟩
  | _, _ => none
def h39 : Hints := ⟨fun f k s => match f, k with
  | 132, 1 => hFrames (.sl tkT) (fun p _ t => takesN p t) s
  | _, _ => none, 0⟩
def h33 : Hints := ⟨fun f k s => match f, k with
  | 132, 1 => hFrames (.int .i64) (fun p m t => mixN m (takesN p t)) s
  | 33, 10 => match lsAt s 7, listAs s 29 tkT with
    | some (_, _, m), some ts => some ⟨Nat, fun j => s.at [7, 8, 29, 30] [tI 31 j, tI 11 (mixTo m ts j).1, tI 12 (mixTo m ts j).2], fun j => j ≤ List.length ts, fun j => List.length ts - j⟩
    | _, _ => none
  | _, _ => none, 0⟩
@[reducible] noncomputable def fb95 : Nat × Func := (95, Proofs.Tryd.f95)
@[reducible] noncomputable def fb132 : Nat × Func := (132, Proofs.Tryd.f132)
@[reducible] noncomputable def fb90 : Nat × Func := (90, Proofs.Tryd.f90)
@[reducible] noncomputable def fb99 : Nat × Func := (99, Proofs.Tryd.f99)
@[reducible] noncomputable def fb100 : Nat × Func := (100, Proofs.Tryd.f100)
@[reducible] noncomputable def fb137 : Nat × Func := (137, Proofs.Tryd.f137)
@[reducible] noncomputable def fb136 : Nat × Func := (136, Proofs.Tryd.f136)
end Go.Sx
namespace Go.Sx
open U
def sp43 : FSpec := ⟨fun vs => match vs with
  | [.one (.sl (.pair .str (.pair (.int .i64) (.sl (.int .i64)))) R), .one (.sl (.pair .str (.pair (.int .i64) (.pair (.int .i64) (.pair (.int .i64) (.int .i64))))) L)] => some ([List.length R ≤ 1000000000, ∀ r ∈ (show List Rl from R), List.length r.2.2 ≤ 1000000, List.length L ≤ 1000000000], .val (iV (chkEds R L)))
  | _ => none, true⟩
def sp89 : FSpec := ⟨fun vs => match vs with
  | [.one (.sl (.pair (.pair .str (.pair (.int .i64) (.pair (.int .i64) (.pair (.int .i64) (.int .i64))))) (.int .i64)) p), .one (.fn 90 [] [])] => some ([List.length p ≤ 1000000], .val (.one (.frs (.int .i64) (List.map (fun x : Pl => x.2) p))))
  | _ => none, true⟩
def sp28 : FSpec := ⟨fun vs => match vs with
  | [.one (.sl (.pair .str (.pair (.int .i64) (.sl (.int .i64)))) R), .one (.sl (.pair .str (.pair (.int .i64) (.pair (.int .i64) (.pair (.int .i64) (.int .i64))))) L)] => some ([List.length R ≤ 1000000000, ∀ r ∈ (show List Rl from R), List.length r.2.2 ≤ 1000000, List.length L ≤ 1000000000], .tup [.one (.frs (.int .i64) (startsN R L)), iV (lenN R L), iV (chkEds R L)])
  | _ => none, true⟩
def sp40 : FSpec := ⟨fun vs => match vs with
  | [.one (.sl (.pair .str (.pair (.int .i64) (.sl (.int .i64)))) R), .one (.sl (.pair .str (.pair (.int .i64) (.pair (.int .i64) (.pair (.int .i64) (.int .i64))))) L)] => some ([List.length R ≤ 1000000000, ∀ r ∈ (show List Rl from R), List.length r.2.2 ≤ 1000000, List.length L ≤ 1000000000], .tup [.one (.frs tkT (soundsN R L)), iV (chkEds R L)])
  | _ => none, true⟩
def sp39 : FSpec := ⟨fun vs => match vs with
  | [.one (.sl (.pair .str (.pair (.int .i64) (.sl (.int .i64)))) R), .one (.sl (.pair .str (.pair (.int .i64) (.pair (.int .i64) (.pair (.int .i64) (.int .i64))))) L)] => some ([List.length R ≤ 1000000000, ∀ r ∈ (show List Rl from R), List.length r.2.2 ≤ 1000000, List.length L ≤ 1000000000], .tup [.one (.frs (.sl tkT) (confN R L)), iV (chkEds R L)])
  | _ => none, false⟩
def sp33 : FSpec := ⟨fun vs => match vs with
  | [.one (.sl (.pair .str (.pair (.int .i64) (.sl (.int .i64)))) R), .one (.sl (.pair .str (.pair (.int .i64) (.pair (.int .i64) (.pair (.int .i64) (.int .i64))))) L)] => some ([List.length R ≤ 1000000000, ∀ r ∈ (show List Rl from R), List.length r.2.2 ≤ 1000000, List.length L ≤ 1000000000], .tup [.one (.frs (.int .i64) (playN R L)), iV (chkEds R L)])
  | _ => none, true⟩
def sp41 : FSpec := ⟨fun vs => match vs with
  | [.one (.sl (.pair .str (.pair (.int .i64) (.sl (.int .i64)))) R), .one (.sl (.pair .str (.pair (.int .i64) (.pair (.int .i64) (.pair (.int .i64) (.int .i64))))) L), .one (.int .i64 i), .one (.int .i64 by_)] => some ([List.length R ≤ 1000000000, ∀ r ∈ (show List Rl from R), List.length r.2.2 ≤ 1000000, List.length L ≤ 1000000000], .tup [.one (.frs edT (chgL R L i by_ 1 rollL)), iV (chgE R L i by_ 1 rollL)])
  | _ => none, true⟩
end Go.Sx

/- What the engine asks, written out (printed by a program). -/
namespace Go.Sx
open U
theorem vc43 (R : List Rl) (L : List Ed) : exF (env false [(103, sp103), (79, sp79), (78, sp78), (104, sp104), (88, sp88), (105, sp105), (106, sp106), (77, sp77)] []) h43 0 43 Proofs.Tryd.f43 [.one (.sl rlT R), .one (.sl edT L)] (.val (iV (chkEds R L))) = (let q2 := (List.length L); let q0 := (plTo L q2); let q3 := (decide ((16 : Int) < (↑q2 : Int))); let q6 := (↑(List.length q0) : Int); let q9 := (List.length R); let q12 := (spE (mapR R q9) q0 (begN L q2)); List.length R ≤ (1000000000 : Nat) ∧ (∀ (r : Rl), r ∈ R → List.length r.2.2 ≤ (1000000 : Nat)) ∧ (2 : Nat) ≤ (1000000000 : Nat) ∧ splitB (first [chkRs R, whenE q3 (5 : Int)] != (0 : Int)) (first [chkRs R, whenE q3 (5 : Int)] = chkEds R L ∧ True) ((∃ (g : Nat), (g ≤ List.length L ∧ upTo (chkEd R L) g = (0 : Int)) ∧ (0 : Int) = (↑g : Int) ∧ (↑q2 : Int) = (↑q2 : Int) ∧ R = R ∧ L = L ∧ [chkRs R, whenE q3 (5 : Int)] = [chkRs R, whenE q3 (5 : Int)] ∧ True) ∧ ∀ (g : Nat), g ≤ List.length L ∧ upTo (chkEd R L) g = (0 : Int) → splitB (decide ((↑g : Int) < (↑q2 : Int))) (chkRs R = (0 : Int) ∧ (↑g : Int) = (↑g : Int) ∧ g < List.length L ∧ List.length L ≤ (1000000 : Nat) ∧ ((0 : Nat) < g → chkEd R L (g - (1 : Nat)) = (0 : Int)) ∧ splitB (chkEd R L g != (0 : Int)) (chkEd R L g = chkEds R L ∧ True) (fits IntKind.i64 ((↑g : Int) + (1 : Int)) ∧ ∃ (g' : Nat), (g' ≤ List.length L ∧ upTo (chkEd R L) g' = (0 : Int)) ∧ List.length L - g' < List.length L - g ∧ (↑g : Int) + (1 : Int) = (↑g' : Int) ∧ (↑q2 : Int) = (↑q2 : Int) ∧ R = R ∧ L = L ∧ [chkRs R, whenE q3 (5 : Int)] = [chkRs R, whenE q3 (5 : Int)] ∧ True)) (List.length R ≤ (1000000000 : Nat) ∧ EdsIn L ∧ splitB (decide ((1024 : Int) < begN L q2)) ((4 : Int) = chkEds R L ∧ True) ((∃ (g : Nat), (g ≤ List.length q0 ∧ upTo (ordE q0 (begN L q2)) g = (0 : Int)) ∧ (0 : Int) = (↑g : Int) ∧ q6 = q6 ∧ plTo L q2 = plTo L q2 ∧ R = R ∧ L = L ∧ plTo L q2 = plTo L q2 ∧ begN L q2 = begN L q2 ∧ mapR R q9 = mapR R q9 ∧ [chkRs R, whenE q3 (5 : Int)] = [chkRs R, whenE q3 (5 : Int)] ∧ True) ∧ ∀ (g : Nat), let q5 := (List.getD q0 (Int.toNat ((↑g : Int) - (1 : Int))) pl0); let q8 := (List.getD q0 g pl0); let q11 := ((0 : Int) < (↑g : Int)); g ≤ List.length q0 ∧ upTo (ordE q0 (begN L q2)) g = (0 : Int) → splitB (decide ((↑g : Int) < q6)) (((0 : Int) ≤ (↑g : Int) ∧ (↑g : Int) < q6) ∧ (decide q11 = true → fits IntKind.i64 (q8.2 + q8.1.2.2.2.2)) ∧ (decide q11 = true → fits IntKind.i64 ((↑g : Int) - (1 : Int))) ∧ (decide q11 = true → (0 : Int) ≤ (↑g : Int) - (1 : Int) ∧ (↑g : Int) - (1 : Int) < q6) ∧ (decide q11 = true → fits IntKind.i64 (q5.2 + q5.1.2.2.2.2)) ∧ (decide (q8.2 + q8.1.2.2.2.2 ≤ q5.2 + q5.1.2.2.2.2) = false → fits IntKind.i64 (q8.2 + q8.1.2.2.2.2)) ∧ splitB (bif decide q11 then bif decide (q8.2 + q8.1.2.2.2.2 ≤ q5.2 + q5.1.2.2.2.2) then true else decide (begN L q2 ≤ q8.2 + q8.1.2.2.2.2) else false) ((11 : Int) = chkEds R L ∧ True) (fits IntKind.i64 ((↑g : Int) + (1 : Int)) ∧ ∃ (g' : Nat), (g' ≤ List.length q0 ∧ upTo (ordE q0 (begN L q2)) g' = (0 : Int)) ∧ List.length q0 - g' < List.length q0 - g ∧ (↑g : Int) + (1 : Int) = (↑g' : Int) ∧ q6 = q6 ∧ plTo L q2 = plTo L q2 ∧ R = R ∧ L = L ∧ plTo L q2 = plTo L q2 ∧ begN L q2 = begN L q2 ∧ mapR R q9 = mapR R q9 ∧ [chkRs R, whenE q3 (5 : Int)] = [chkRs R, whenE q3 (5 : Int)] ∧ True)) ((∃ (g : Nat), (g ≤ List.length q0 ∧ upTo q12 g = (0 : Int)) ∧ (0 : Int) = (↑g : Int) ∧ q6 = q6 ∧ plTo L q2 = plTo L q2 ∧ R = R ∧ L = L ∧ plTo L q2 = plTo L q2 ∧ begN L q2 = begN L q2 ∧ mapR R q9 = mapR R q9 ∧ [chkRs R, whenE q3 (5 : Int)] = [chkRs R, whenE q3 (5 : Int)] ∧ True) ∧ ∀ (g : Nat), let q7 := (List.getD q0 g pl0); let q1 := (Option.getD (mapGet Ty.str (Ty.pair Ty.str (Ty.pair (Ty.int IntKind.i64) (Ty.sl (Ty.int IntKind.i64)))) (mapR R q9) q7.1.1) r0); let q10 := (heardN q0 (begN L q2) g); let q4 := (q7.1.2.1 + q10.1 - q7.2 < q1.2.1); g ≤ List.length q0 ∧ upTo q12 g = (0 : Int) → splitB (decide ((↑g : Int) < q6)) (((0 : Int) ≤ (↑g : Int) ∧ (↑g : Int) < q6) ∧ (↑g : Int) = (↑g : Int) ∧ g < List.length q0 ∧ (∀ (x : Pl), x ∈ plTo L q2 → fits IntKind.i64 (sndN x)) ∧ List.length q0 ≤ (1000000 : Nat) ∧ fits IntKind.i64 (q7.1.2.1 + q10.1) ∧ fits IntKind.i64 (q7.1.2.1 + q10.1 - q7.2) ∧ (decide q4 = false → fits IntKind.i64 (q7.1.2.1 + q10.2)) ∧ (decide q4 = false → fits IntKind.i64 (q7.1.2.1 + q10.2 - q7.2)) ∧ (decide q4 = false → fits IntKind.i64 (q1.2.1 + (↑(List.length q1.2.2) : Int))) ∧ splitB (bif decide q4 then true else decide (q1.2.1 + (↑(List.length q1.2.2) : Int) < q7.1.2.1 + q10.2 - q7.2)) ((16 : Int) = chkEds R L ∧ True) (fits IntKind.i64 ((↑g : Int) + (1 : Int)) ∧ ∃ (g' : Nat), (g' ≤ List.length q0 ∧ upTo q12 g' = (0 : Int)) ∧ List.length q0 - g' < List.length q0 - g ∧ (↑g : Int) + (1 : Int) = (↑g' : Int) ∧ q6 = q6 ∧ plTo L q2 = plTo L q2 ∧ R = R ∧ L = L ∧ plTo L q2 = plTo L q2 ∧ begN L q2 = begN L q2 ∧ mapR R q9 = mapR R q9 ∧ [chkRs R, whenE q3 (5 : Int)] = [chkRs R, whenE q3 (5 : Int)] ∧ True)) ((0 : Int) = chkEds R L ∧ True)))))) := by
  kernel_rfl
theorem vc89 (p : List Pl) : exF (env false [] [fb90]) h89 3 89 Proofs.Tryd.f89 [.one (.sl plT p), .one (.fn 90 [] [])] (.val (.one (.frs (.int .i64) (p.map fun x => x.2)))) = (let q0 := (↑(List.length p) : Int); (∃ (g : Nat), Nat.le g (List.length p) ∧ (0 : Int) = (↑g : Int) ∧ q0 = q0 ∧ p = p ∧ List.map (fun (x : (List UInt8 × Int × Int × Int × Int) × Int) => x.2) (List.take g p) = [] ∧ True) ∧ ∀ (g : Nat), Nat.le g (List.length p) → splitB (decide ((↑g : Int) < q0)) (((0 : Int) ≤ (↑g : Int) ∧ (↑g : Int) < q0) ∧ room (List.length (List.map (fun (x : (List UInt8 × Int × Int × Int × Int) × Int) => x.2) (List.take g p)) + (1 : Nat)) (8 : Nat) ∧ fits IntKind.i64 ((↑g : Int) + (1 : Int)) ∧ ∃ (g' : Nat), Nat.le g' (List.length p) ∧ List.length p - g' < List.length p - g ∧ (↑g : Int) + (1 : Int) = (↑g' : Int) ∧ q0 = q0 ∧ p = p ∧ List.map (fun (x : (List UInt8 × Int × Int × Int × Int) × Int) => x.2) (List.take g p) ++ [(List.getD p g pl0).2] = List.map (fun (x : (List UInt8 × Int × Int × Int × Int) × Int) => x.2) (List.take g' p) ∧ True) (List.map (fun (x : (List UInt8 × Int × Int × Int × Int) × Int) => x.2) (List.take g p) = List.map (fun (x : Pl) => x.2) p ∧ True)) := by
  kernel_rfl
theorem vc28 (R : List Rl) (L : List Ed) : exF (env false [(43, sp43), (88, sp88), (89, sp89)] []) h0 0 28 Proofs.Tryd.f28 [.one (.sl rlT R), .one (.sl edT L)] (.tup [.one (.frs (.int .i64) (startsN R L)), iV (lenN R L), iV (chkEds R L)]) = (List.length R ≤ (1000000000 : Nat) ∧ (∀ (r : Rl), r ∈ R → List.length r.2.2 ≤ (1000000 : Nat)) ∧ List.length L ≤ (1000000000 : Nat) ∧ splitB (chkEds R L != (0 : Int)) (startsN R L = [] ∧ (0 : Int) = lenN R L ∧ chkEds R L = chkEds R L ∧ True) (List.length R ≤ (1000000000 : Nat) ∧ EdsIn L ∧ List.length (plTo L (List.length L)) ≤ (1000000 : Nat) ∧ List.map (fun (x : Pl) => x.2) (plTo L (List.length L)) = startsN R L ∧ begN L (List.length L) = lenN R L ∧ (0 : Int) = chkEds R L ∧ True)) := by
  kernel_rfl
theorem vc40 (R : List Rl) (L : List Ed) : exF (env false [(43, sp43), (88, sp88), (98, sp98)] []) h40 0 40 Proofs.Tryd.f40 [.one (.sl rlT R), .one (.sl edT L)] (.tup [.one (.frs tkT (soundsN R L)), iV (chkEds R L)]) = (let q0 := (List.length L); List.length R ≤ (1000000000 : Nat) ∧ (∀ (r : Rl), r ∈ R → List.length r.2.2 ≤ (1000000 : Nat)) ∧ List.length L ≤ (1000000000 : Nat) ∧ splitB (chkEds R L != (0 : Int)) (soundsN R L = [] ∧ chkEds R L = chkEds R L ∧ True) (List.length R ≤ (1000000000 : Nat) ∧ EdsIn L ∧ (∃ (g : Nat), Nat.le g (Int.toNat (begN L q0)) ∧ (0 : Int) = (↑g : Int) ∧ begN L q0 = begN L q0 ∧ R = R ∧ L = L ∧ List.map (fun (t : Nat) => soundN (plTo L q0) (↑t : Int)) (List.range g) = [] ∧ plTo L q0 = plTo L q0 ∧ begN L q0 = begN L q0 ∧ mapR R (List.length R) = mapR R (List.length R) ∧ True) ∧ ∀ (g : Nat), let q1 := (soundN (plTo L q0) (↑g : Int)); Nat.le g (Int.toNat (begN L q0)) → splitB (decide ((↑g : Int) < begN L q0)) (PlsOk (plTo L q0) ∧ ((0 : Int) ≤ (↑g : Int) ∧ (↑g : Int) ≤ (100000 : Int)) ∧ room (List.length (List.map (fun (t : Nat) => soundN (plTo L q0) (↑t : Int)) (List.range g)) + (1 : Nat)) (40 : Nat) ∧ fits IntKind.i64 ((↑g : Int) + (1 : Int)) ∧ ∃ (g' : Nat), Nat.le g' (Int.toNat (begN L q0)) ∧ Int.toNat (begN L q0) - g' < Int.toNat (begN L q0) - g ∧ (↑g : Int) + (1 : Int) = (↑g' : Int) ∧ begN L q0 = begN L q0 ∧ R = R ∧ L = L ∧ List.map (fun (t : Nat) => soundN (plTo L q0) (↑t : Int)) (List.range g) ++ [(q1.1, q1.2.1, q1.2.2.1, q1.2.2.2)] = List.map (fun (t : Nat) => soundN (plTo L q0) (↑t : Int)) (List.range g') ∧ plTo L q0 = plTo L q0 ∧ begN L q0 = begN L q0 ∧ mapR R (List.length R) = mapR R (List.length R) ∧ True) (List.map (fun (t : Nat) => soundN (plTo L q0) (↑t : Int)) (List.range g) = soundsN R L ∧ (0 : Int) = chkEds R L ∧ True))) := by
  kernel_rfl
theorem vc39 (R : List Rl) (L : List Ed) : exF (env false [(43, sp43), (88, sp88), (133, sp133)] [fb95, fb132]) h39 3 39 Proofs.Tryd.f39 [.one (.sl rlT R), .one (.sl edT L)] (.tup [.one (.frs (.sl tkT) (confN R L)), iV (chkEds R L)]) = (let q0 := (List.length L); List.length R ≤ (1000000000 : Nat) ∧ (∀ (r : Rl), r ∈ R → List.length r.2.2 ≤ (1000000 : Nat)) ∧ List.length L ≤ (1000000000 : Nat) ∧ splitB (chkEds R L != (0 : Int)) (confN R L = [] ∧ chkEds R L = chkEds R L ∧ True) (List.length R ≤ (1000000000 : Nat) ∧ EdsIn L ∧ (∃ (g : Nat), Nat.le g (Int.toNat (begN L q0)) ∧ (0 : Int) = (↑g : Int) ∧ begN L q0 = begN L q0 ∧ List.map (fun (t : Nat) => takesN (plTo L q0) (↑t : Int)) (List.range g) = [] ∧ plTo L q0 = plTo L q0 ∧ begN L q0 = begN L q0 ∧ mapR R (List.length R) = mapR R (List.length R) ∧ True) ∧ ∀ (g : Nat), Nat.le g (Int.toNat (begN L q0)) → splitB (decide ((↑g : Int) < begN L q0)) (PlsOk (plTo L q0) ∧ ((0 : Int) ≤ (↑g : Int) ∧ (↑g : Int) ≤ (100000 : Int)) ∧ room (List.length (List.map (fun (t : Nat) => takesN (plTo L q0) (↑t : Int)) (List.range g)) + (1 : Nat)) (24 : Nat) ∧ fits IntKind.i64 ((↑g : Int) + (1 : Int)) ∧ ∃ (g' : Nat), Nat.le g' (Int.toNat (begN L q0)) ∧ Int.toNat (begN L q0) - g' < Int.toNat (begN L q0) - g ∧ (↑g : Int) + (1 : Int) = (↑g' : Int) ∧ begN L q0 = begN L q0 ∧ List.map (fun (t : Nat) => takesN (plTo L q0) (↑t : Int)) (List.range g) ++ [takesN (plTo L q0) (↑g : Int)] = List.map (fun (t : Nat) => takesN (plTo L q0) (↑t : Int)) (List.range g') ∧ plTo L q0 = plTo L q0 ∧ begN L q0 = begN L q0 ∧ mapR R (List.length R) = mapR R (List.length R) ∧ True) (List.map (fun (t : Nat) => takesN (plTo L q0) (↑t : Int)) (List.range g) = confN R L ∧ (0 : Int) = chkEds R L ∧ True))) := by
  kernel_rfl
theorem vc33 (R : List Rl) (L : List Ed) : exF (env false [(43, sp43), (88, sp88), (133, sp133)] [fb95, fb132]) h33 3 33 Proofs.Tryd.f33 [.one (.sl rlT R), .one (.sl edT L)] (.tup [.one (.frs (.int .i64) (playN R L)), iV (chkEds R L)]) = (let q3 := (List.length L); let q4 := (List.length R); List.length R ≤ (1000000000 : Nat) ∧ (∀ (r : Rl), r ∈ R → List.length r.2.2 ≤ (1000000 : Nat)) ∧ List.length L ≤ (1000000000 : Nat) ∧ splitB (chkEds R L != (0 : Int)) (playN R L = [] ∧ chkEds R L = chkEds R L ∧ True) (List.length R ≤ (1000000000 : Nat) ∧ EdsIn L ∧ (∃ (g : Nat), Nat.le g (Int.toNat (begN L q3)) ∧ (0 : Int) = (↑g : Int) ∧ begN L q3 = begN L q3 ∧ List.map (fun (t : Nat) => mixN (mapR R q4) (takesN (plTo L q3) (↑t : Int))) (List.range g) = [] ∧ plTo L q3 = plTo L q3 ∧ begN L q3 = begN L q3 ∧ mapR R q4 = mapR R q4 ∧ plTo L q3 = plTo L q3 ∧ begN L q3 = begN L q3 ∧ mapR R q4 = mapR R q4 ∧ True) ∧ ∀ (g : Nat), let q0 := (takesN (plTo L q3) (↑g : Int)); let q6 := (↑(List.length q0) : Int); let q8 := (List.range g); Nat.le g (Int.toNat (begN L q3)) → splitB (decide ((↑g : Int) < begN L q3)) (PlsOk (plTo L q3) ∧ ((0 : Int) ≤ (↑g : Int) ∧ (↑g : Int) ≤ (100000 : Int)) ∧ (∃ (g_1 : Nat), Nat.le g_1 (List.length q0) ∧ (0 : Int) = (↑g_1 : Int) ∧ (0 : Int) = (mixTo (mapR R q4) q0 g_1).1 ∧ (1 : Int) = (mixTo (mapR R q4) q0 g_1).2 ∧ q6 = q6 ∧ takesN (plTo L q3) (↑g : Int) = takesN (plTo L q3) (↑g : Int) ∧ List.map (fun (t : Nat) => mixN (mapR R q4) (takesN (plTo L q3) (↑t : Int))) q8 = List.map (fun (t : Nat) => mixN (mapR R q4) (takesN (plTo L q3) (↑t : Int))) q8 ∧ plTo L q3 = plTo L q3 ∧ begN L q3 = begN L q3 ∧ mapR R q4 = mapR R q4 ∧ plTo L q3 = plTo L q3 ∧ begN L q3 = begN L q3 ∧ mapR R q4 = mapR R q4 ∧ True) ∧ ∀ (g_1 : Nat), let q5 := (List.getD q0 g_1 tk0); let q1 := (Option.getD (mapGet Ty.str (Ty.pair Ty.str (Ty.pair (Ty.int IntKind.i64) (Ty.sl (Ty.int IntKind.i64)))) (mapR R q4) q5.1) r0); let q2 := (mixTo (mapR R q4) q0 g_1); let q7 := (Int.toNat (q5.2.1 - q1.2.1)); let q9 := ((2 : Int) * q2.1 + q2.2); Nat.le g_1 (List.length q0) → splitB (decide ((↑g_1 : Int) < q6)) (((0 : Int) ≤ (↑g_1 : Int) ∧ (↑g_1 : Int) < q6) ∧ fits IntKind.i64 (q2.1 * q5.2.2.2) ∧ fits IntKind.i64 (q5.2.1 - q1.2.1) ∧ ((0 : Int) ≤ q5.2.1 - q1.2.1 ∧ q5.2.1 - q1.2.1 < (↑(List.length q1.2.2) : Int)) ∧ fits IntKind.i64 (List.getD q1.2.2 q7 (0 : Int) * q5.2.2.1) ∧ fits IntKind.i64 (List.getD q1.2.2 q7 (0 : Int) * q5.2.2.1 * q2.2) ∧ fits IntKind.i64 (q2.1 * q5.2.2.2 + List.getD q1.2.2 q7 (0 : Int) * q5.2.2.1 * q2.2) ∧ fits IntKind.i64 (q2.2 * q5.2.2.2) ∧ fits IntKind.i64 ((↑g_1 : Int) + (1 : Int)) ∧ ∃ (g' : Nat), Nat.le g' (List.length q0) ∧ List.length q0 - g' < List.length q0 - g_1 ∧ (↑g_1 : Int) + (1 : Int) = (↑g' : Int) ∧ q2.1 * q5.2.2.2 + List.getD q1.2.2 q7 (0 : Int) * q5.2.2.1 * q2.2 = (mixTo (mapR R q4) q0 g').1 ∧ q2.2 * q5.2.2.2 = (mixTo (mapR R q4) q0 g').2 ∧ q6 = q6 ∧ takesN (plTo L q3) (↑g : Int) = takesN (plTo L q3) (↑g : Int) ∧ List.map (fun (t : Nat) => mixN (mapR R q4) (takesN (plTo L q3) (↑t : Int))) q8 = List.map (fun (t : Nat) => mixN (mapR R q4) (takesN (plTo L q3) (↑t : Int))) q8 ∧ plTo L q3 = plTo L q3 ∧ begN L q3 = begN L q3 ∧ mapR R q4 = mapR R q4 ∧ plTo L q3 = plTo L q3 ∧ begN L q3 = begN L q3 ∧ mapR R q4 = mapR R q4 ∧ True) (fits IntKind.i64 ((2 : Int) * q2.1) ∧ fits IntKind.i64 q9 ∧ fits IntKind.i64 ((2 : Int) * q2.2) ∧ ((0 : Int) ≤ (2 : Int) * q2.1 + q2.2 ∧ (0 : Int) < (2 : Int) * q2.2 ∧ fits IntKind.i64 (q9 / ((2 : Int) * q2.2))) ∧ room (List.length (List.map (fun (t : Nat) => mixN (mapR R q4) (takesN (plTo L q3) (↑t : Int))) q8) + (1 : Nat)) (8 : Nat) ∧ fits IntKind.i64 ((↑g : Int) + (1 : Int)) ∧ ∃ (g' : Nat), Nat.le g' (Int.toNat (begN L q3)) ∧ Int.toNat (begN L q3) - g' < Int.toNat (begN L q3) - g ∧ (↑g : Int) + (1 : Int) = (↑g' : Int) ∧ begN L q3 = begN L q3 ∧ List.map (fun (t : Nat) => mixN (mapR R q4) (takesN (plTo L q3) (↑t : Int))) q8 ++ [q9 / ((2 : Int) * q2.2)] = List.map (fun (t : Nat) => mixN (mapR R q4) (takesN (plTo L q3) (↑t : Int))) (List.range g') ∧ plTo L q3 = plTo L q3 ∧ begN L q3 = begN L q3 ∧ mapR R q4 = mapR R q4 ∧ plTo L q3 = plTo L q3 ∧ begN L q3 = begN L q3 ∧ mapR R q4 = mapR R q4 ∧ True)) (List.map (fun (t : Nat) => mixN (mapR R q4) (takesN (plTo L q3) (↑t : Int))) q8 = playN R L ∧ (0 : Int) = chkEds R L ∧ True))) := by
  kernel_rfl
theorem vc41 (R : List Rl) (L : List Ed) (i by_ : Int) : exF (env false [(43, sp43), (79, sp79), (122, sp122), (78, sp78)] [fb99, fb100, fb137, fb136]) h0 3 41 Proofs.Tryd.f41 [.one (.sl rlT R), .one (.sl edT L), iV i, iV by_] (.tup [.one (.frs edT (chgL R L i by_ 1 rollL)), iV (chgE R L i by_ 1 rollL)]) = (let q5 := (List.replicate (List.length L) e0); let q1 := (copyL (0 : Nat) (List.length q5) q5 L); let q10 := (i - (1 : Int)); let q3 := (List.getD q1 (Int.toNat q10) e0); let q0 := (List.set q1 (Int.toNat q10) (q3.1, q3.2.1, q3.2.2.1 + by_, q3.2.2.2.1, q3.2.2.2.2)); let q4 := (List.getD q0 (Int.toNat i) e0); let q2 := (q4.1, q4.2.1 + by_, q4.2.2.1, q4.2.2.2.1, q4.2.2.2.2); let q6 := (bif decide (i < (0 : Int)) then true else decide ((↑(List.length L) : Int) ≤ i)); let q7 := ((0 : Int) ≤ i - (1 : Int) ∧ i - (1 : Int) < (↑(List.length q1) : Int)); let q8 := (1000000000 : Nat); let q9 := (List.set q0 (Int.toNat i) q2); let q11 := ((0 : Int) ≤ i ∧ i < (↑(List.length q0) : Int)); List.length R ≤ q8 ∧ (∀ (r : Rl), r ∈ R → List.length r.2.2 ≤ (1000000 : Nat)) ∧ List.length L ≤ q8 ∧ splitB (chkEds R L != (0 : Int)) (chgL R L i by_ (1 : Int) rollL = [] ∧ chkEds R L = chgE R L i by_ (1 : Int) rollL ∧ True) ((3 : Nat) ≤ q8 ∧ splitB (first [whenE q6 (10 : Int), within by_ (-10000000 : Int) (10000000 : Int), whenE (decide (i < (1 : Int))) (21 : Int)] != (0 : Int)) (chgL R L i by_ (1 : Int) rollL = [] ∧ first [whenE q6 (10 : Int), within by_ (-10000000 : Int) (10000000 : Int), whenE (decide (i < (1 : Int))) (21 : Int)] = chgE R L i by_ (1 : Int) rollL ∧ True) ((0 : Int) ≤ (↑(List.length L) : Int) ∧ room (List.length L) (48 : Nat) ∧ (0 : Nat) + List.length q5 ≤ List.length q5 ∧ fits IntKind.i64 q10 ∧ q7 ∧ Int.toNat q10 < List.length q1 ∧ fits IntKind.i64 (q3.2.2.1 + by_) ∧ q7 ∧ Int.toNat q10 < List.length q1 ∧ q11 ∧ Int.toNat i < List.length q0 ∧ fits IntKind.i64 (q4.2.1 + by_) ∧ q11 ∧ Int.toNat i < List.length q0 ∧ List.length R ≤ q8 ∧ (∀ (r : Rl), r ∈ R → List.length r.2.2 ≤ (1000000 : Nat)) ∧ List.length q9 ≤ q8 ∧ splitB (chkEds R q9 != (0 : Int)) (chgL R L i by_ (1 : Int) rollL = [] ∧ chkEds R q9 = chgE R L i by_ (1 : Int) rollL ∧ True) (List.set q0 (Int.toNat i) q2 = chgL R L i by_ (1 : Int) rollL ∧ (0 : Int) = chgE R L i by_ (1 : Int) rollL ∧ True)))) := by
  kernel_rfl
end Go.Sx
