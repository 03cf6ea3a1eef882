/- A verified symbolic run of functions, part 17: lemmas, no claim of their own. -/
import Derived.Test.YtpbipfdpoijgoaaGreatDoorS16
import Derived.OpenShut
import Derived.ProofKit
import Derived.Carry
import Derived.OpenVars
import Derived.Lib.LaidTab
import Derived.ChangeSame
import Derived.WalkKit
import Derived.Deep.DeepHandedRow
import Derived.JoinedCond
import Derived.KernelRfl
import Derived.Test.YtpbipfdpoijgoaaGreatDoorProg
import Derived.Test.YtpbipfdpoijgoaaGreatDoorCards
/- Contracts. -/
namespace Go.Sx
open U
theorem startsL_get (L : List Ed) {g : Nat} (hg : g < L.length) : (startsL L).getD g 0 = begN L g := by
  unfold startsL
  rw [List.getD_eq_getElem?_getD, List.getElem?_map, List.getElem?_range hg]; rfl
theorem startsL_len (L : List Ed) : (startsL L).length = L.length := by simp [startsL]
theorem sndI_last {L : List Ed} {fr : Int} (h0 : 0 ≤ fr) (hz : (L.getD 0 e0).2.2.2.2 = 0) : ∀ n, 0 < n → n ≤ L.length → sndI L fr n = (lastTo sndN (ls L) fr n : Int)
  | n + 1, _, hn => by
    have e : sndN ((ls L).getD n pl0) = begN L n + (L.getD n e0).2.2.2.2 := sndN_ls (by omega)
    simp only [sndI, lastTo, e]
    split
    · rfl
    · rename_i hc
      cases n with
      | zero => rw [hz] at hc; simp only [begN] at hc; omega
      | succ n => exact sndI_last h0 hz (n + 1) (by omega) (by omega)
theorem fn151 (n d : Int) (hn : 0 < n) (hd : 0 < d) (hf : n ≤ 1000000 ∧ d ≤ 1000000) : Fn P1 gl1 151 [iV n, iV d] (.val (iV (Nat.gcd n.toNat d.toNat : Int))) true := by
  refine Fn.flat ?_ rfl
  refine fn_of false [] [] h151 0 Proofs.Tryz.f151 trivial trivial (by kernel_rfl) rfl (by kernel_rfl) rfl rfl rfl ?_
  rw [vc151]
  try simp only [splitB_iff, -eq_self]
  refine ⟨⟨(n.toNat, d.toNat), ⟨by dsimp only; omega, rfl⟩, by dsimp only; omega, by dsimp only; omega, trivial⟩, fun g hg => ⟨fun h => ?_, fun h => ?_⟩⟩
  · have h' : g.2 ≠ 0 := by simpa using h
    refine ⟨⟨by omega, by omega⟩, (g.2, g.1 % g.2), ⟨by dsimp only; omega, ?_⟩, by dsimp only; exact Nat.mod_lt _ (by omega), rfl, by dsimp only; omega, trivial⟩
    dsimp only
    rw [Nat.gcd_comm, ← Nat.gcd_rec, Nat.gcd_comm]
    exact hg.2
  · have h' : g.2 = 0 := by simpa using h
    have hg2 := hg.2
    rw [h', Nat.gcd_zero_right] at hg2
    exact ⟨by rw [hg2], trivial⟩
theorem so151_ : SpecOk P1 gl1 151 sp151 := by
  intro vs ps r h hp
  simp only [sp151] at h
  split at h
  · cases h; exact fn151 _ _ (hp _ (.head _)) (hp _ (.tail _ (.head _))) (hp _ (.tail _ (.tail _ (.head _))))
  · cases h
theorem so151 : Sp1 151 sp151 := ⟨so151_, Proofs.Tryz.f151, _, by kernel_rfl, rfl, by kernel_rfl⟩
theorem fn127 (n d : Int) (hn : 0 < n) (hd : 0 < d) (hf : n ≤ 1000000 ∧ d ≤ 1000000) : Fn P1 gl1 127 [iV n, iV d] (.val (.agg [.one (.int .i64 (lowN n d).1), .one (.int .i64 (lowN n d).2)])) true := by
  refine Fn.flat ?_ rfl
  refine fn_of false [(151, sp151)] [] h0 0 Proofs.Tryz.f127 ⟨so151, trivial⟩ trivial (by kernel_rfl) rfl (by kernel_rfl) rfl rfl rfl ?_
  rw [vc127]
  try simp only [splitB_iff, -eq_self]
  have hpos : 0 < Nat.gcd n.toNat d.toNat := Nat.gcd_pos_of_pos_left _ (by omega)
  have b2 := Int.ediv_le_self (a := n) (Nat.gcd n.toNat d.toNat : Int) (by omega)
  have b1 := Int.ediv_nonneg (a := n) (b := (Nat.gcd n.toNat d.toNat : Int)) (by omega) (by omega)
  have b3 := Int.ediv_nonneg (a := d) (b := (Nat.gcd n.toNat d.toNat : Int)) (by omega) (by omega)
  have b4 := Int.ediv_le_self (a := d) (Nat.gcd n.toNat d.toNat : Int) (by omega)
  exact ⟨fun h => by have := of_decide_eq_true h; omega, fun _ => ⟨hn, hd, hf, ⟨by omega, by omega, by simp only [fits]; omega⟩, ⟨by omega, by omega, by simp only [fits]; omega⟩, rfl, rfl, trivial⟩⟩
theorem so127_ : SpecOk P1 gl1 127 sp127 := by
  intro vs ps r h hp
  simp only [sp127] at h
  split at h
  · cases h; exact fn127 _ _ (hp _ (.head _)) (hp _ (.tail _ (.head _))) (hp _ (.tail _ (.tail _ (.head _))))
  · cases h
theorem so127 : Sp1 127 sp127 := ⟨so127_, Proofs.Tryz.f127, _, by kernel_rfl, rfl, by kernel_rfl⟩
theorem fn176 (n d : Int) (hn : 0 ≤ n ∧ n ≤ 100000000000000) (hd : 0 < d) : Fn P1 gl1 176 [iV n, iV d] (.val (iV (n / d))) true := by
  refine Fn.flat ?_ rfl
  refine fn_of false [] [] h0 0 Proofs.Tryz.f176 trivial trivial (by kernel_rfl) rfl (by kernel_rfl) rfl rfl rfl ?_
  rw [vc176]
  try simp only [splitB_iff, -eq_self]
  have b1 := Int.ediv_nonneg (a := n) (b := d) (by omega) (by omega)
  have b2 := Int.ediv_le_self (a := n) d (by omega)
  have b3 : n / d * d ≤ n := Int.ediv_mul_le _ (by omega)
  have b4 : 0 ≤ n / d * d := Int.mul_nonneg b1 (by omega)
  refine ⟨⟨by omega, by omega, by simp only [fits]; omega⟩, by simp only [fits]; omega, fun h => ?_, fun _ => ?_⟩
  · have := of_decide_eq_true h; omega
  · exact ⟨by trivial, trivial⟩
theorem so176_ : SpecOk P1 gl1 176 sp176 := by
  intro vs ps r h hp
  simp only [sp176] at h
  split at h
  · cases h; exact fn176 _ _ (hp _ (.head _)) (hp _ (.tail _ (.head _)))
  · cases h
theorem so176 : Sp1 176 sp176 := ⟨so176_, Proofs.Tryz.f176, _, by kernel_rfl, rfl, by kernel_rfl⟩
theorem fn128 (n d : Int) (hn : 0 ≤ n ∧ n ≤ 10000000000000) (hd : 0 < d ∧ d ≤ 10000000000000) : Fn P1 gl1 128 [iV n, iV d] (.val (iV ((2 * n + d) / (2 * d)))) true := by
  refine Fn.flat ?_ rfl
  refine fn_of false [(176, sp176)] [] h0 0 Proofs.Tryz.f128 ⟨so176, trivial⟩ trivial (by kernel_rfl) rfl (by kernel_rfl) rfl rfl rfl ?_
  rw [vc128]
  try simp only [splitB_iff, -eq_self]
  exact ⟨by simp only [fits]; omega, by simp only [fits]; omega, by simp only [fits]; omega, by omega, by omega, by trivial, trivial⟩
theorem so128_ : SpecOk P1 gl1 128 sp128 := by
  intro vs ps r h hp
  simp only [sp128] at h
  split at h
  · cases h; exact fn128 _ _ (hp _ (.head _)) (hp _ (.tail _ (.head _)))
  · cases h
theorem so128 : Sp1 128 sp128 := ⟨so128_, Proofs.Tryz.f128, _, by kernel_rfl, rfl, by kernel_rfl⟩
theorem fn40 (L : List Ed) (fr : Int) (hL : EdsIn L) (hp : PlsOk (ls L)) (hf : 0 ≤ fr ∧ fr ≤ 100000) : Fn P1 gl1 40 [.one (.sl edT L), iV fr] (.val (.one (.sl tkT (takesN (ls L) fr)))) false := by
  refine fn_of false [(39, sp39), (127, sp127)] [] h40 0 Proofs.Tryz.f40 ⟨so39, so127, trivial⟩ trivial (by kernel_rfl) rfl (by kernel_rfl) rfl rfl rfl ?_
  rw [vc40]
  try simp only [splitB_iff, -eq_self]
  obtain ⟨h0, h16, hx, hb0, hf0⟩ := hp
  rw [ls_len] at h0 h16
  rw [ls_get L h0] at hb0 hf0
  dsimp only at hb0 hf0
  simp only [startsL_len]
  refine ⟨hL, ⟨0, Nat.zero_le _, rfl, rfl, by trivial, by trivial, by trivial, trivial⟩, fun g hg => ⟨fun hlt => ?_, fun hge => ?_⟩⟩
  · have hlt' : g < L.length := by have := of_decide_eq_true hlt; omega
    have e : atN L fr (g + 1) = if begN L g ≤ fr then g else atN L fr g := by
      show (if begP ((ls L).getD g pl0) ≤ fr then g else _) = _
      rw [ls_get L hlt']; rfl
    rw [startsL_get L hlt']
    refine ⟨by omega, hlt', fun h => ⟨by simp only [fits]; omega, g + 1, hlt', by omega, by omega, ?_, by trivial, by trivial, by trivial, trivial⟩, fun h => ⟨by simp only [fits]; omega, g + 1, hlt', by omega, by omega, ?_, by trivial, by trivial, by trivial, trivial⟩⟩
    · rw [e, if_pos (of_decide_eq_true h)]
    · rw [e, if_neg (of_decide_eq_false h)]
  · have hgL : g = L.length := by have := of_decide_eq_false hge; have : g ≤ L.length := hg; omega
    subst hgL
    have hl : atN L fr L.length < L.length := lastTo_lt begP (ls L) fr L.length h0
    have hle : begP ((ls L).getD (atN L fr L.length) pl0) ≤ fr := lastTo_le (g := begP) (p := ls L) (fr := fr) (by rw [ls_get L h0]; show begN L 0 ≤ fr; omega) L.length
    have hT : takesN (ls L) fr = takesE (L.getD (atN L fr L.length) e0) (L.getD (atN L fr L.length - 1) e0) (fr - begN L (atN L fr L.length)) := by
      unfold takesN
      rw [ls_len]
      show takesE ((ls L).getD (atN L fr L.length) pl0).1 ((ls L).getD (atN L fr L.length - 1) pl0).1 (fr - ((ls L).getD (atN L fr L.length) pl0).2) = _
      rw [ls_get L hl, ls_get L (show atN L fr L.length - 1 < L.length by omega)]
    have hk := hx _ (getD_mem (d := pl0) (show atN L fr L.length < (ls L).length by rw [ls_len]; exact hl))
    have hb := hx _ (getD_mem (d := pl0) (show atN L fr L.length - 1 < (ls L).length by rw [ls_len]; omega))
    rw [ls_get L hl] at hk hle
    rw [ls_get L (show atN L fr L.length - 1 < L.length by omega)] at hb
    have hle : begN L (atN L fr L.length) ≤ fr := hle
    rw [hT, startsL_get L hl]
    generalize atN L fr L.length = k at *
    dsimp only at hk hb
    refine ⟨by omega, hl, by simp only [fits]; omega, by omega, by omega, by simp only [fits]; omega, by omega, fun h => ?_, fun h => ?_⟩
    · unfold takesE; rw [if_pos (of_decide_eq_true h)]; exact ⟨rfl, trivial⟩
    · have h' := of_decide_eq_false h
      have hk1 : 0 < k := by
        apply Nat.pos_of_ne_zero
        rintro rfl
        rw [hf0] at h'
        simp only [begN] at h'
        omega
      have e1 : ((k : Int) - 1).toNat = k - 1 := by omega
      rw [e1]
      unfold takesE
      rw [if_neg h']
      repeat' (first | exact trivial | refine And.intro ?_ ?_)
      all_goals first | omega | (simp only [fits]; omega) | rfl
theorem so40_ : SpecOk P1 gl1 40 sp40 := by
  intro vs ps r h hp
  simp only [sp40] at h
  split at h
  · cases h; exact fn40 _ _ (hp _ (.head _)) (hp _ (.tail _ (.head _))) (hp _ (.tail _ (.tail _ (.head _))))
  · cases h
theorem so40 : Sp1 40 sp40 := ⟨so40_, Proofs.Tryz.f40, _, by kernel_rfl, rfl, by kernel_rfl⟩
theorem fn41 (L : List Ed) (fr : Int) (hL : EdsIn L) (hp : PlsOk (ls L)) (hf : 0 ≤ fr ∧ fr ≤ 100000) (hz : (L.getD 0 e0).2.2.2.2 = 0) : Fn P1 gl1 41 [.one (.sl edT L), iV fr] (.val (tkV (soundN (ls L) fr))) true := by
  refine Fn.flat ?_ rfl
  refine fn_of false [(39, sp39), (126, sp126)] [] h0 0 Proofs.Tryz.f41 ⟨so39, so126, trivial⟩ trivial (by kernel_rfl) rfl (by kernel_rfl) rfl rfl rfl ?_
  rw [vc41]
  try simp only [splitB_iff, -eq_self]
  obtain ⟨h0, h16, hx, hb0, hf0⟩ := hp
  rw [ls_len] at h0 h16
  have hs := sndI_last hf.1 hz L.length h0 (Nat.le_refl _)
  have hl := lastTo_lt sndN (ls L) fr L.length h0
  have hk := hx _ (getD_mem (d := pl0) (show lastTo sndN (ls L) fr L.length < (ls L).length by rw [ls_len]; exact hl))
  have hT : soundN (ls L) fr = ((L.getD (lastTo sndN (ls L) fr L.length) e0).1, (L.getD (lastTo sndN (ls L) fr L.length) e0).2.1 + fr - begN L (lastTo sndN (ls L) fr L.length), 1, 1) := by
    unfold soundN
    rw [ls_len, ls_get L hl]
  have hsd : ∀ x : Ed, x ∈ L → -100 ≤ x.2.2.2.2 ∧ x.2.2.2.2 ≤ 100 := fun x hxL => by
    obtain ⟨i, hi, rfl⟩ := mem_getD e0 hxL
    have := hx _ (getD_mem (d := pl0) (show i < (ls L).length by rw [ls_len]; exact hi))
    rw [ls_get L hi] at this
    exact this.2.2.2.1
  rw [ls_get L hl] at hk
  rw [hT, hs]
  simp only [startsL_len, Int.toNat_natCast]
  rw [startsL_get L hl]
  generalize lastTo sndN (ls L) fr L.length = k at *
  dsimp only at hk
  exact ⟨hL, hL, hsd, by omega, by omega, by simp only [fits]; omega, by omega, hl, by simp only [fits]; omega, by trivial, by trivial, by trivial, by trivial, trivial⟩
theorem so41_ : SpecOk P1 gl1 41 sp41 := by
  intro vs ps r h hp
  simp only [sp41] at h
  split at h
  · cases h; exact fn41 _ _ (hp _ (.head _)) (hp _ (.tail _ (.head _))) (hp _ (.tail _ (.tail _ (.head _)))) (hp _ (.tail _ (.tail _ (.tail _ (.head _)))))
  · cases h
theorem so41 : Sp1 41 sp41 := ⟨so41_, Proofs.Tryz.f41, _, by kernel_rfl, rfl, by kernel_rfl⟩
theorem fn42 (R : List Rl) (L : List Ed) (fr : Int) (hk : ListOk R L) (hf : 0 ≤ fr ∧ fr < lenL L) : Fn P1 gl1 42 [.one (.sl rlT R), .one (.sl edT L), iV fr] (.val (iV (mixN (mapR R R.length) (takesN (ls L) fr)))) true := by
  refine Fn.flat ?_ rfl
  refine fn_of false [(40, sp40), (115, sp115), (128, sp128)] [] h42 0 Proofs.Tryz.f42 ⟨so40, so115, so128, trivial⟩ trivial (by kernel_rfl) rfl (by kernel_rfl) rfl rfl rfl ?_
  rw [vc42]
  try simp only [splitB_iff, -eq_self]
  have ht := takes_ok hk hf.1 hf.2
  have hd := rs_nodup hk.rs
  have hRl : R.length ≤ 8 := (rs_at hk.rs).1
  refine ⟨hk.eds, hk.pls' hf.1 hf.2, ⟨hf.1, hk.frame hf.2⟩, ?_⟩
  generalize takesN (ls L) fr = ts at *
  refine ⟨⟨0, Nat.zero_le _, rfl, rfl, rfl, by trivial, by trivial, by trivial, trivial⟩, fun j hj => ⟨fun hjl => ?_, fun hjg => ?_⟩⟩
  · have hjl' : j < ts.length := by have := of_decide_eq_true hjl; omega
    have hm := mix_bd hk.rs ht.2 j (by omega) (by omega)
    have hx := ht.2 _ (getD_mem (d := tk0) hjl')
    have hs := mixTo_succ hd ts j
    have hB : nB j ≤ 131070000 ∧ dB j ≤ 2000 := by
      have : j = 0 ∨ j = 1 := by omega
      rcases this with rfl | rfl <;> decide
    have hc := take_check hk.rs hx
    have hst := mix_step hB.1 hB.2 ⟨hm.n0, hm.n1⟩ ⟨hm.d0, hm.d1⟩ hc.2 hx.num hx.den
    obtain ⟨hf1, hf2⟩ := findN_some hx.idx
    have hr := reel_bd hk.rs (ts.getD j tk0).1
    have hix := hx.idx
    have h1 := hx.lo
    have h2 := hx.hi
    rw [hf2, hf1]
    refine ⟨by omega, by omega, by omega, by omega, by simp only [fits]; omega, hc.1, by omega, hst.1, by omega, hst.2.1, hst.2.2.1, hst.2.2.2.1, by omega, hst.2.2.2.2.1, by simp only [fits]; omega, j + 1, hjl', by omega, by omega, ?_, ?_, by trivial, by trivial, by trivial, trivial⟩
    · rw [hs]
    · rw [hs]
  · have hjj : j = ts.length := by have := of_decide_eq_false hjg; have : j ≤ ts.length := hj; omega
    have hm := mix_bd hk.rs ht.2 j (by omega) (by omega)
    have hB : nB j ≤ 524280000000 ∧ dB j ≤ 4000000 := by
      have : j = 0 ∨ j = 1 ∨ j = 2 := by omega
      rcases this with rfl | rfl | rfl <;> decide
    have n0 := hm.n0
    have n1 := hm.n1
    have d0 := hm.d0
    have d1 := hm.d1
    exact ⟨by omega, by omega, by rw [hjj]; rfl, trivial⟩
theorem so42_ : SpecOk P1 gl1 42 sp42 := by
  intro vs ps r h hp
  simp only [sp42] at h
  split at h
  · cases h; exact fn42 _ _ _ (hp _ (.head _)) (hp _ (.tail _ (.head _)))
  · cases h
theorem so42 : Sp1 42 sp42 := ⟨so42_, Proofs.Tryz.f42, _, by kernel_rfl, rfl, by kernel_rfl⟩

end Go.Sx

/- Results that are the caller's own, told as memory that stays. -/
namespace Go.Sx
def stayV : V → V
  | .one (.frs t xs) => .one (.sl t xs)
  | x => x
def staySV : SV → SV
  | .val x => .val (stayV x)
  | .tup xs => .tup (xs.map stayV)
/-- The contract whose results stay. -/
def FSpec.frz (sp : FSpec) : FSpec := ⟨fun vs => match sp.run vs with
  | some (ps, r) => some (ps, staySV r)
  | none => none, false⟩

theorem stayV_den {w : World} {B : Nat} {H H2 : IH} (hh : HLe H H2) (hn : ∀ b o, B ≤ b → w.heap[b]? = some o → H2 b = some o) {x : V} {v : Value} (h : DenRV w B H x v) : DenRV w B H2 (stayV x) v := by
  have other : ∀ y : V, pureV y = true ∧ DenV ρ0 H y v → pureV y = true ∧ DenV ρ0 H2 y v := fun y hy => ⟨hy.1, DenV.mono (REq.refl 0 ρ0) hh (pureV_lt hy.1 0) hy.2⟩
  cases x with
  | agg cs => exact other _ h
  | one c =>
    cases c with
    | frs t xs =>
      have ho : OwnRow w B H v t xs := h
      show pureV (.one (.sl t xs)) = true ∧ Rd H2 (.sl t) xs [v]
      refine ⟨rfl, ?_⟩
      rcases ho with ⟨rfl, rfl⟩ | ⟨g, cap, cur, e, rfl, h2, _, h4, h5, _, _, h8⟩
      · exact ⟨none, 0, rfl, Nat.le_refl _, .inl rfl⟩
      · exact ⟨some ⟨g, 0, none⟩, cap, rfl, h5, .inr ⟨g, 0, cur, e, _, rfl, hn g _ h2 h4, fun i hi => by rw [Nat.zero_add]; exact Rd.mono hh _ _ _ (h8 i hi)⟩⟩
    | _ => exact other _ h

theorem isFrs_stay (x : V) : isFrs (stayV x) = false := by
  cases x with
  | agg cs => rfl
  | one c => cases c <;> rfl

theorem stayVs_den {w : World} {B : Nat} {H H2 : IH} (hh : HLe H H2) (hn : ∀ b o, B ≤ b → w.heap[b]? = some o → H2 b = some o) : ∀ {xs : List V} {vs : List Value}, DenRVs w B H xs vs → DenRVs w B H2 (xs.map stayV) vs
  | [], _, h => h
  | x :: r, _, ⟨v, vs', e, h1, h2, _⟩ => ⟨v, vs', e, stayV_den hh hn h1, stayVs_den hh hn h2, fun h => by rw [isFrs_stay] at h; cases h⟩

theorem Fn.frz {P : Program} {gl : Nat → Option ((t : Ty) × t.T)} {f : FuncId} {args : List V} {r : SV} {fr : Bool} (h : Fn P gl f args r fr) : Fn P gl f args (staySV r) false := by
  intro w H vs hag G hd
  refine (h w H vs hag G hd).mono ?_
  rintro e w' ⟨v, H', rfl, h1, h2, h3, h4⟩
  have hh : HLe H' (fun b => if b < w.heap.size then H b else w'.heap[b]?) := by
    intro b o ho
    show (if b < w.heap.size then H b else w'.heap[b]?) = some o
    split
    · rename_i hlt
      have := h3 b hlt
      rw [ho] at this
      split at this
      · cases this
      · exact this.symm
    · exact h2 b o ho
  have hn : ∀ b o, w.heap.size ≤ b → w'.heap[b]? = some o → (fun b => if b < w.heap.size then H b else w'.heap[b]?) b = some o := fun b o hb ho => (if_neg (by omega)).trans ho
  refine ⟨v, fun b => if b < w.heap.size then H b else w'.heap[b]?, rfl, h1, fun b o ho => ?_, fun b hb => if_pos hb, ?_⟩
  · simp only [] at ho
    split at ho
    · rename_i hlt; rw [h1.block b hlt]; exact hag b o ho
    · exact ho
  · cases r with
    | val x => exact stayV_den hh hn h4
    | tup xs =>
      obtain ⟨us, e, hus⟩ := h4
      exact ⟨us, e, stayVs_den hh hn hus⟩

theorem Sp1.frz {f : FuncId} {sp : FSpec} (h : Sp1 f sp) : Sp1 f sp.frz := by
  refine ⟨fun vs ps r hr hp => ?_, h.2⟩
  unfold FSpec.frz at hr
  simp only [] at hr
  split at hr
  · rename_i ps' r' hs
    cases hr
    exact (h.1 vs _ _ hs hp).frz
  · cases hr
end Go.Sx

/- Plain functions and hints. -/
namespace Go.Sx
open U
def h5 : Hints := ⟨fun f k s => match f, k with
  | 5, 15 => match listAs s 0 rlT, listAs s 1 edT with
    | some R, some L => some ⟨Nat, fun i => ⟨[tI 70 i, (17, .val (.one (.own s.nx))), (18, .val (.one (.own (s.nx + 1)))), (16, .val (.one (.own (s.nx + 2)))), (15, .val (.one (.sl (.int .i64) (startsL L)))), tI 19 (lenL L)] ++ keepT [0, 1, 5, 6, 7, 8, 9, 10, 11, 12, 13, 14, 69] s.tm,
        (s.nx, some (.row (.sl tkT) ((List.range i).map fun t : Nat => takesN (ls L) t))) :: (s.nx + 1, some (.row tkT ((List.range i).map fun t : Nat => soundN (ls L) t))) :: (s.nx + 2, some (.row (.int .i64) ((List.range i).map fun t : Nat => mixN (mapR R (List.length R)) (takesN (ls L) t)))) :: lessO s [16, 17, 18], s.nx + 3, s.lr⟩, fun i => i ≤ (lenL L).toNat, fun i => (lenL L).toNat - i⟩
    | _, _ => none
  | _, _ => none, 0⟩
def sp44n : FSpec := ⟨fun vs => match vs with
  | [.one (.sl (.int .i64) xs), .one (.sl (.int .i64) ys)] => some ([List.length xs ≤ 1000000000], .val (bV (decide (xs = ys))))
  | [.one (.sl (.int .i64) xs), .one .nils] => some ([List.length xs ≤ 1000000000], .val (bV (decide (xs = []))))
  | _ => none, true⟩
end Go.Sx
namespace Go.Sx
open U
def sp46 : FSpec := ⟨fun vs => match vs with
  | [.one (.sl (.sl (.pair .str (.pair (.int .i64) (.pair (.int .i64) (.int .i64))))) B)] => some ([List.length B ≤ 1000000, ∀ x ∈ (show List (List Tk) from B), List.length x ≤ 1000000], .val (.one (.sl (.sl tkT) B)))
  | _ => none, false⟩
def sp45 : FSpec := ⟨fun vs => match vs with
  | [.one (.sl (.sl (.pair .str (.pair (.int .i64) (.pair (.int .i64) (.int .i64))))) a), .one (.sl (.sl (.pair .str (.pair (.int .i64) (.pair (.int .i64) (.int .i64))))) b)] => some ([List.length a ≤ 1000000, ∀ x ∈ (show List (List Tk) from a), List.length x ≤ 1000000], .val (bV (decide ((show List (List Tk) from a) = b))))
  | [.one (.sl (.sl (.pair .str (.pair (.int .i64) (.pair (.int .i64) (.int .i64))))) a), .one .nils] => some ([List.length a ≤ 1000000, ∀ x ∈ (show List (List Tk) from a), List.length x ≤ 1000000], .val (bV (decide ((show List (List Tk) from a) = []))))
  | _ => none, true⟩
end Go.Sx

/- What the engine asks, written out (printed by a program). -/
namespace Go.Sx
open U
theorem vc46 (B : List (List Tk)) : exF (env false [(48, sp48.frz)] []) (hCopy 46 (.sl tkT)) 0 46 Proofs.Tryz.f46 [.one (.sl (.sl tkT) B)] (.val (.one (.sl (.sl tkT) B))) = (let q0 := (↑(List.length B) : Int); (∃ (g : Nat), Nat.le g (List.length B) ∧ (0 : Int) = (↑g : Int) ∧ q0 = q0 ∧ B = B ∧ List.take g B = [] ∧ True) ∧ ∀ (g : Nat), Nat.le g (List.length B) → splitB (decide ((↑g : Int) < q0)) (((0 : Int) ≤ (↑g : Int) ∧ (↑g : Int) < q0) ∧ List.length (List.getD B g []) ≤ (1000000 : Nat) ∧ room (List.length (List.take g B) + (1 : Nat)) (24 : Nat) ∧ fits IntKind.i64 ((↑g : Int) + (1 : Int)) ∧ ∃ (g' : Nat), Nat.le g' (List.length B) ∧ List.length B - g' < List.length B - g ∧ (↑g : Int) + (1 : Int) = (↑g' : Int) ∧ q0 = q0 ∧ B = B ∧ List.take g B ++ [List.getD B g []] = List.take g' B ∧ True) (List.take g B = B ∧ True)) := by
  kernel_rfl
theorem vc45 (a b : List (List Tk)) : exF (env false [(47, sp47)] []) (hSame 45 (.sl tkT) []) 0 45 Proofs.Tryz.f45 [.one (.sl (.sl tkT) a), .one (.sl (.sl tkT) b)] (.val (bV (decide (a = b)))) = (splitB ((↑(List.length a) : Int) != (↑(List.length b) : Int)) (false = decide (a = b) ∧ True) ((∃ (g : Nat), (g ≤ List.length a ∧ ∀ (j : Nat), j < g → List.getD a j [] = List.getD b j []) ∧ (0 : Int) = (↑g : Int) ∧ a = a ∧ b = b ∧ True) ∧ ∀ (g : Nat), (g ≤ List.length a ∧ ∀ (j : Nat), j < g → List.getD a j [] = List.getD b j []) → splitB (decide ((↑g : Int) < (↑(List.length a) : Int))) (((0 : Int) ≤ (↑g : Int) ∧ (↑g : Int) < (↑(List.length a) : Int)) ∧ ((0 : Int) ≤ (↑g : Int) ∧ (↑g : Int) < (↑(List.length b) : Int)) ∧ List.length (List.getD a g []) ≤ (1000000 : Nat) ∧ splitB (!decide (List.getD a g [] = List.getD b g [])) (false = decide (a = b) ∧ True) (fits IntKind.i64 ((↑g : Int) + (1 : Int)) ∧ ∃ (g' : Nat), (g' ≤ List.length a ∧ ∀ (j : Nat), j < g' → List.getD a j [] = List.getD b j []) ∧ List.length a - g' < List.length a - g ∧ (↑g : Int) + (1 : Int) = (↑g' : Int) ∧ a = a ∧ b = b ∧ True)) (true = decide (a = b) ∧ True))) := by
  kernel_rfl
theorem vc5 (R : List Rl) (L : List Ed) : exF (env false [(17, sp17), (18, sp18), (25, sp25), (34, sp34.frz), (33, sp33.frz), (35, sp35.frz), (36, sp36.frz), (37, sp37.frz), (38, sp38), (39, sp39.frz), (40, sp40), (41, sp41), (42, sp42), (43, sp43), (44, sp44n), (46, sp46), (45, sp45), (48, sp48.frz), (47, sp47)] []) h5 0 5 Proofs.Tryz.f5 [.one (.sl rlT R), .one (.sl edT L)] (.val (bV true)) = (let q8 := (startsN R L = startsL L); let q0 := (bif bif bif bif bif bif chkEds R L == chkEds R L then chkEds R L == chkEds R L else false then chkEds R L == chkEds R L else false then chkEds R L == chkEds R L else false then chkEds R L == chkEds R L else false then decide q8 else false then lenN R L == lenL L else false); let q11 := (startsN R L = []); let q1 := (bif bif bif bif bif bif chkEds R L == chkEds R L then chkEds R L == chkEds R L else false then chkEds R L == chkEds R L else false then chkEds R L == chkEds R L else false then chkEds R L == chkEds R L else false then decide q11 else false then lenN R L == (0 : Int) else false); let q2 := (1000000 : Nat); let q3 := ((bif bif bif bif bif bif bif chkEds R L == chkEds R L then chkEds R L == chkEds R L else false then chkEds R L == chkEds R L else false then chkEds R L == chkEds R L else false then chkEds R L == chkEds R L else false then decide q11 else false then lenN R L == (0 : Int) else false then decide (confN R L = []) else false) = true → List.length (soundsN R L) ≤ q2); let q5 := (1000000000 : Nat); let q4 := ((bif bif bif bif chkEds R L == chkEds R L then chkEds R L == chkEds R L else false then chkEds R L == chkEds R L else false then chkEds R L == chkEds R L else false then chkEds R L == chkEds R L else false) = true → List.length (startsN R L) ≤ q5); let q7 := (mapR R (List.length R)); List.length R ≤ (9223372036854775807 : Nat) ∧ List.length L ≤ (9223372036854775807 : Nat) ∧ splitB (!shortB R L) (true = true ∧ True) (List.length R ≤ q2 ∧ (∀ (r : Rl), r ∈ R → List.length r.2.2 ≤ q2) ∧ List.length L ≤ q2 ∧ List.length R ≤ q5 ∧ (∀ (r : Rl), r ∈ R → List.length r.2.2 ≤ q2) ∧ List.length L ≤ q5 ∧ List.length R ≤ q2 ∧ (∀ (r : Rl), r ∈ R → List.length r.2.2 ≤ q2) ∧ List.length L ≤ q2 ∧ List.length R ≤ q5 ∧ (∀ (r : Rl), r ∈ R → List.length r.2.2 ≤ q2) ∧ List.length L ≤ q5 ∧ List.length R ≤ q2 ∧ (∀ (r : Rl), r ∈ R → List.length r.2.2 ≤ q2) ∧ List.length L ≤ q2 ∧ List.length R ≤ q5 ∧ (∀ (r : Rl), r ∈ R → List.length r.2.2 ≤ q2) ∧ List.length L ≤ q5 ∧ List.length R ≤ q2 ∧ (∀ (r : Rl), r ∈ R → List.length r.2.2 ≤ q2) ∧ List.length L ≤ q2 ∧ List.length R ≤ q5 ∧ (∀ (r : Rl), r ∈ R → List.length r.2.2 ≤ q2) ∧ List.length L ≤ q5 ∧ List.length R ≤ q5 ∧ (∀ (r : Rl), r ∈ R → List.length r.2.2 ≤ q2 ∧ List.length r.1 ≤ q5) ∧ List.length L ≤ q5 ∧ (∀ (x : Ed), x ∈ L → fits IntKind.i64 x.2.2.1) ∧ splitB (chkEds R L == (0 : Int)) (EdsIn L ∧ (∃ (g : Nat), Nat.le g (Int.toNat (lenL L)) ∧ (0 : Int) = (↑g : Int) ∧ startsL L = startsL L ∧ lenL L = lenL L ∧ lenL L = lenL L ∧ chkEds R L = chkEds R L ∧ chkEds R L = chkEds R L ∧ playN R L = playN R L ∧ chkEds R L = chkEds R L ∧ soundsN R L = soundsN R L ∧ chkEds R L = chkEds R L ∧ confN R L = confN R L ∧ chkEds R L = chkEds R L ∧ lenN R L = lenN R L ∧ startsN R L = startsN R L ∧ R = R ∧ L = L ∧ List.map (fun (t : Nat) => takesN (ls L) (↑t : Int)) (List.range g) = [] ∧ List.map (fun (t : Nat) => soundN (ls L) (↑t : Int)) (List.range g) = [] ∧ List.map (fun (t : Nat) => mixN q7 (takesN (ls L) (↑t : Int))) (List.range g) = [] ∧ True) ∧ ∀ (g : Nat), let q6 := (List.range g); let q9 := (soundN (ls L) (↑g : Int)); let q10 := ((0 : Int) ≤ (↑g : Int) ∧ (↑g : Int) ≤ (100000 : Int)); Nat.le g (Int.toNat (lenL L)) → splitB (decide ((↑g : Int) < lenL L)) (EdsIn L ∧ PlsOk (ls L) ∧ q10 ∧ room (List.length (List.map (fun (t : Nat) => takesN (ls L) (↑t : Int)) q6) + (1 : Nat)) (24 : Nat) ∧ EdsIn L ∧ PlsOk (ls L) ∧ q10 ∧ (List.getD L (0 : Nat) e0).2.2.2.2 = (0 : Int) ∧ room (List.length (List.map (fun (t : Nat) => soundN (ls L) (↑t : Int)) q6) + (1 : Nat)) (40 : Nat) ∧ ListOk R L ∧ ((0 : Int) ≤ (↑g : Int) ∧ (↑g : Int) < lenL L) ∧ room (List.length (List.map (fun (t : Nat) => mixN q7 (takesN (ls L) (↑t : Int))) q6) + (1 : Nat)) (8 : Nat) ∧ fits IntKind.i64 ((↑g : Int) + (1 : Int)) ∧ ∃ (g' : Nat), Nat.le g' (Int.toNat (lenL L)) ∧ Int.toNat (lenL L) - g' < Int.toNat (lenL L) - g ∧ (↑g : Int) + (1 : Int) = (↑g' : Int) ∧ startsL L = startsL L ∧ lenL L = lenL L ∧ lenL L = lenL L ∧ chkEds R L = chkEds R L ∧ chkEds R L = chkEds R L ∧ playN R L = playN R L ∧ chkEds R L = chkEds R L ∧ soundsN R L = soundsN R L ∧ chkEds R L = chkEds R L ∧ confN R L = confN R L ∧ chkEds R L = chkEds R L ∧ lenN R L = lenN R L ∧ startsN R L = startsN R L ∧ R = R ∧ L = L ∧ List.map (fun (t : Nat) => takesN (ls L) (↑t : Int)) q6 ++ [takesN (ls L) (↑g : Int)] = List.map (fun (t : Nat) => takesN (ls L) (↑t : Int)) (List.range g') ∧ List.map (fun (t : Nat) => soundN (ls L) (↑t : Int)) q6 ++ [(q9.1, q9.2.1, q9.2.2.1, q9.2.2.2)] = List.map (fun (t : Nat) => soundN (ls L) (↑t : Int)) (List.range g') ∧ List.map (fun (t : Nat) => mixN q7 (takesN (ls L) (↑t : Int))) q6 ++ [mixN q7 (takesN (ls L) (↑g : Int))] = List.map (fun (t : Nat) => mixN q7 (takesN (ls L) (↑t : Int))) (List.range g') ∧ True) (List.length R ≤ q2 ∧ (∀ (r : Rl), r ∈ R → List.length r.2.2 ≤ q2) ∧ List.length L ≤ q2 ∧ List.length R ≤ q5 ∧ (∀ (r : Rl), r ∈ R → List.length r.2.2 ≤ q2) ∧ List.length L ≤ q5 ∧ q4 ∧ (q0 = true → List.length (confN R L) ≤ q2) ∧ (q0 = true → ∀ (x : List Tk), x ∈ confN R L → List.length x ≤ q2) ∧ (q0 = true → List.length (confN R L) ≤ q2) ∧ (q0 = true → ∀ (x : List Tk), x ∈ confN R L → List.length x ≤ q2) ∧ ((bif bif bif bif bif bif bif chkEds R L == chkEds R L then chkEds R L == chkEds R L else false then chkEds R L == chkEds R L else false then chkEds R L == chkEds R L else false then chkEds R L == chkEds R L else false then decide q8 else false then lenN R L == lenL L else false then decide (confN R L = List.map (fun (t : Nat) => takesN (ls L) (↑t : Int)) q6) else false) = true → List.length (soundsN R L) ≤ q2) ∧ ((bif bif bif bif bif bif bif chkEds R L == chkEds R L then chkEds R L == chkEds R L else false then chkEds R L == chkEds R L else false then chkEds R L == chkEds R L else false then chkEds R L == chkEds R L else false then decide q8 else false then lenN R L == lenL L else false then decide (confN R L = List.map (fun (t : Nat) => takesN (ls L) (↑t : Int)) q6) else false) = true → List.length (soundsN R L) ≤ q2) ∧ ((bif bif bif bif bif bif bif bif chkEds R L == chkEds R L then chkEds R L == chkEds R L else false then chkEds R L == chkEds R L else false then chkEds R L == chkEds R L else false then chkEds R L == chkEds R L else false then decide q8 else false then lenN R L == lenL L else false then decide (confN R L = List.map (fun (t : Nat) => takesN (ls L) (↑t : Int)) q6) else false then decide (soundsN R L = List.map (fun (t : Nat) => soundN (ls L) (↑t : Int)) q6) else false) = true → List.length (playN R L) ≤ q5) ∧ (bif bif bif bif bif bif bif bif bif bif chkEds R L == chkEds R L then chkEds R L == chkEds R L else false then chkEds R L == chkEds R L else false then chkEds R L == chkEds R L else false then chkEds R L == chkEds R L else false then decide q8 else false then lenN R L == lenL L else false then decide (confN R L = List.map (fun (t : Nat) => takesN (ls L) (↑t : Int)) q6) else false then decide (soundsN R L = List.map (fun (t : Nat) => soundN (ls L) (↑t : Int)) q6) else false then decide (playN R L = List.map (fun (t : Nat) => mixN q7 (takesN (ls L) (↑t : Int))) q6) else false then true else false) = true ∧ True)) (List.length R ≤ q2 ∧ (∀ (r : Rl), r ∈ R → List.length r.2.2 ≤ q2) ∧ List.length L ≤ q2 ∧ List.length R ≤ q5 ∧ (∀ (r : Rl), r ∈ R → List.length r.2.2 ≤ q2) ∧ List.length L ≤ q5 ∧ q4 ∧ (q1 = true → List.length (confN R L) ≤ q2) ∧ (q1 = true → ∀ (x : List Tk), x ∈ confN R L → List.length x ≤ q2) ∧ (q1 = true → List.length (confN R L) ≤ q2) ∧ (q1 = true → ∀ (x : List Tk), x ∈ confN R L → List.length x ≤ q2) ∧ q3 ∧ q3 ∧ ((bif bif bif bif bif bif bif bif chkEds R L == chkEds R L then chkEds R L == chkEds R L else false then chkEds R L == chkEds R L else false then chkEds R L == chkEds R L else false then chkEds R L == chkEds R L else false then decide q11 else false then lenN R L == (0 : Int) else false then decide (confN R L = []) else false then decide (soundsN R L = []) else false) = true → List.length (playN R L) ≤ q5) ∧ (bif bif bif bif bif bif bif bif bif bif chkEds R L == chkEds R L then chkEds R L == chkEds R L else false then chkEds R L == chkEds R L else false then chkEds R L == chkEds R L else false then chkEds R L == chkEds R L else false then decide q11 else false then lenN R L == (0 : Int) else false then decide (confN R L = []) else false then decide (soundsN R L = []) else false then decide (playN R L = []) else false then true else false) = true ∧ True))) := by
  kernel_rfl
end Go.Sx

/- Contracts. -/
namespace Go.Sx
open U
theorem so44n : Sp1 44 sp44n := by
  refine ⟨fun vs ps r h hp => ?_, so44.2⟩
  simp only [sp44n] at h
  split at h
  · cases h; exact fn44 _ _ (hp _ (.head _))
  · cases h
    exact Fn.args (fn44 _ [] (hp _ (.head _))) fun H vs d => by
      obtain ⟨v0, r0, rfl, h0, v1, r1, rfl, h1, hz⟩ := d
      exact ⟨_, _, rfl, h0, _, _, rfl, nil_sl h1, hz⟩
  · cases h
theorem ls_starts (L : List Ed) : (ls L).map (fun x => x.2) = startsL L := by
  refine List.ext_getElem (by rw [List.length_map, ls_len, startsL_len]) fun i h1 h2 => ?_
  have hi : i < L.length := by rw [startsL_len] at h2; exact h2
  have hp : i < (ls L).length := by rw [ls_len]; exact hi
  have e := ls_get L hi
  rw [getD_of hp] at e
  have e2 := startsL_get L hi
  rw [getD_of h2] at e2
  rw [List.getElem_map, e, e2]
theorem short_bd {R : List Rl} {L : List Ed} (h : (!shortB R L) = false) : (R.length ≤ 9 ∧ ∀ r ∈ R, r.2.2.length ≤ 257 ∧ r.1.length ≤ 40) ∧ L.length ≤ 17 := by
  simp only [Bool.not_eq_false', shortB, shortE, shortR, Bool.and_eq_true, Bool.or_eq_true, List.all_eq_true, decide_eq_true_eq] at h
  obtain ⟨h1, h2, h3, h4⟩ := h
  exact ⟨⟨by omega, fun r hr => by have := h1 r hr; omega⟩, by omega⟩
theorem fn46 (B : List (List Tk)) (hl : B.length ≤ 1000000) (hB : ∀ x ∈ B, x.length ≤ 1000000) : Fn P1 gl1 46 [.one (.sl (.sl tkT) B)] (.val (.one (.sl (.sl tkT) B))) false := by
  refine fn_of false [(48, sp48.frz)] [] (hCopy 46 (.sl tkT)) 0 Proofs.Tryz.f46 ⟨Sp1.frz so48, trivial⟩ trivial (by kernel_rfl) rfl (by kernel_rfl) rfl rfl rfl ?_
  rw [vc46]
  try simp only [splitB_iff, -eq_self]
  refine ⟨⟨0, Nat.zero_le _, rfl, by trivial, by trivial, by simp⟩, fun g hg => ⟨fun hlt => ?_, fun hge => ?_⟩⟩
  · have hlt' : g < B.length := by simpa using hlt
    exact ⟨by omega, hB _ (getD_mem (d := []) hlt'), by simp only [room, List.length_take]; omega, by simp only [fits]; omega, g + 1, hlt', by omega, by simp, by trivial, by trivial, copied hlt', trivial⟩
  · have hge' : ¬ g < B.length := by simpa using hge
    exact ⟨List.take_of_length_le (by omega), trivial⟩
theorem so46_ : SpecOk P1 gl1 46 sp46 := by
  intro vs ps r h hp
  simp only [sp46] at h
  split at h
  · cases h; exact fn46 _ (hp _ (.head _)) (hp _ (.tail _ (.head _)))
  · cases h
theorem so46 : Sp1 46 sp46 := ⟨so46_, Proofs.Tryz.f46, _, by kernel_rfl, rfl, by kernel_rfl⟩
theorem fn45 (a b : List (List Tk)) (hl : a.length ≤ 1000000) (ha : ∀ x ∈ a, x.length ≤ 1000000) : Fn P1 gl1 45 [.one (.sl (.sl tkT) a), .one (.sl (.sl tkT) b)] (.val (bV (decide (a = b)))) true := by
  refine Fn.flat ?_ rfl
  refine fn_of false [(47, sp47)] [] (hSame 45 (.sl tkT) []) 0 Proofs.Tryz.f45 ⟨so47, trivial⟩ trivial (by kernel_rfl) rfl (by kernel_rfl) rfl rfl rfl ?_
  rw [vc45]
  try simp only [splitB_iff, -eq_self]
  simp only [same_len]
  refine ⟨fun h => ⟨(decide_eq_false fun e => ?_).symm, trivial⟩, fun h => ?_⟩
  · rw [e] at h; simp at h
  · have h' : a.length = b.length := by simpa using h
    refine ⟨⟨0, ⟨Nat.zero_le _, fun j hj => absurd hj (Nat.not_lt_zero _)⟩, rfl, by trivial, by trivial, trivial⟩, fun g hg => ⟨fun hlt => ?_, fun hge => ?_⟩⟩
    · have hlt' : g < a.length := by have := of_decide_eq_true hlt; omega
      refine ⟨by omega, by omega, ha _ (getD_mem (d := []) hlt'), fun hne => ⟨(decide_eq_false fun e => ?_).symm, trivial⟩, fun hq => ⟨by simp only [fits]; omega, g + 1, ⟨hlt', fun j hj => ?_⟩, by omega, by omega, by trivial, by trivial, trivial⟩⟩
      · subst e
        simp at hne
      · by_cases ej : j = g
        · subst ej
          simpa using hq
        · exact hg.2 j (by omega)
    · exact ⟨(decide_eq_true (same_all [] h' fun j hj => hg.2 j (by have := of_decide_eq_false hge; omega))).symm, trivial⟩
theorem so45_ : SpecOk P1 gl1 45 sp45 := by
  intro vs ps r h hp
  simp only [sp45] at h
  split at h
  · cases h; exact fn45 _ _ (hp _ (.head _)) (hp _ (.tail _ (.head _)))
  · cases h; exact Fn.args (fn45 _ [] (hp _ (.head _)) (hp _ (.tail _ (.head _)))) fun H vs d => by
      obtain ⟨v0, r0, rfl, h0, v1, r1, rfl, h1, hz⟩ := d
      exact ⟨_, _, rfl, h0, _, _, rfl, nil_sl h1, hz⟩
  · cases h
theorem so45 : Sp1 45 sp45 := ⟨so45_, Proofs.Tryz.f45, _, by kernel_rfl, rfl, by kernel_rfl⟩
theorem fn5 (R : List Rl) (L : List Ed) (hl : R.length ≤ 9223372036854775807) (hL : L.length ≤ 9223372036854775807) (hF : ∀ x ∈ L, fits .i64 x.2.2.1) : Fn P1 gl1 5 [.one (.sl rlT R), .one (.sl edT L)] (.val (bV true)) true := by
  refine Fn.flat ?_ rfl
  refine fn_of false [(17, sp17), (18, sp18), (25, sp25), (34, sp34.frz), (33, sp33.frz), (35, sp35.frz), (36, sp36.frz), (37, sp37.frz), (38, sp38), (39, sp39.frz), (40, sp40), (41, sp41), (42, sp42), (43, sp43), (44, sp44n), (46, sp46), (45, sp45), (48, sp48.frz), (47, sp47)] [] h5 0 Proofs.Tryz.f5 ⟨so17, so18, so25, Sp1.frz so34, Sp1.frz so33, Sp1.frz so35, Sp1.frz so36, Sp1.frz so37, so38, Sp1.frz so39, so40, so41, so42, so43, so44n, so46, so45, Sp1.frz so48, so47, trivial⟩ trivial (by kernel_rfl) rfl (by kernel_rfl) rfl rfl rfl ?_
  rw [vc5]
  try simp only [splitB_iff, -eq_self]
  refine ⟨hl, hL, fun h => ⟨by trivial, trivial⟩, fun h => ?_⟩
  obtain ⟨⟨hR9, hRx⟩, hLx⟩ := short_bd h
  have k1 : ∀ r : Rl, r ∈ R → r.2.2.length ≤ 1000000 := fun r hr => by have := hRx r hr; omega
  have k2 : ∀ r : Rl, r ∈ R → r.2.2.length ≤ 1000000 ∧ r.1.length ≤ 1000000000 := fun r hr => by have := hRx r hr; omega
  by_cases hc : chkEds R L = 0
  · have hk := chkEds_zero.1 hc
    have hn := lenL_nn hk
    have hbig := hk.big
    have s1 : startsN R L = startsL L := (if_pos hc).trans (ls_starts L)
    have s2 : lenN R L = lenL L := if_pos hc
    have s3 : confN R L = (List.range (lenL L).toNat).map fun t : Nat => takesN (ls L) t := if_pos hc
    have s4 : soundsN R L = (List.range (lenL L).toNat).map fun t : Nat => soundN (ls L) t := if_pos hc
    have s5 : playN R L = (List.range (lenL L).toNat).map fun t : Nat => mixN (mapR R R.length) (takesN (ls L) t) := if_pos hc
    have hz : 0 < lenL L → (L.getD 0 e0).2.2.2.2 = 0 := fun h0 => by
      have hp := hk.pls' (Int.le_refl 0) h0
      have h1 := hp.1
      rw [ls_len] at h1
      exact ((chkEd_ok (hk.ed 0 h1)).first rfl).2
    have hB : ∀ x : List Tk, x ∈ (List.range (lenL L).toNat).map (fun t : Nat => takesN (ls L) t) → List.length x ≤ 1000000 := fun x hx => by
      obtain ⟨t, ht, rfl⟩ := List.mem_map.1 hx
      have := (takes_ok hk (show (0 : Int) ≤ t by omega) (by have := List.mem_range.1 ht; omega)).1
      omega
    have hml : ∀ {α : Type} (f : Nat → α), ((List.range (lenL L).toNat).map f).length ≤ 1024 := fun f => by rw [List.length_map, List.length_range]; omega
    simp only [hc, s1, s2]
    and_intros
    any_goals first | exact k1 | exact k2 | exact hF | omega
    · intro _
      refine ⟨hk.eds, ⟨0, Nat.zero_le _, by simp⟩, fun g hg => ⟨fun hlt => ?_, fun hge => ?_⟩⟩
      · have hlt' : (g : Int) < lenL L := of_decide_eq_true hlt
        have hp := hk.pls' (by omega) hlt'
        have hz' := hz (by omega)
        have he := hk.eds
        have hf := hk.frame hlt'
        refine ⟨he, hp, ⟨by omega, hf⟩, by simp only [room, List.length_map, List.length_range]; omega, he, hp, ⟨by omega, hf⟩, hz', by simp only [room, List.length_map, List.length_range]; omega, hk, ⟨by omega, hlt'⟩, by simp only [room, List.length_map, List.length_range]; omega, by simp only [fits]; omega, g + 1, (by omega : g + 1 ≤ (lenL L).toNat), by omega, by omega, ?_⟩
        and_intros
        all_goals first | trivial | rfl | (rw [map_range]) | (rw [map_range]; rfl)
      · have hge' : ¬ (g : Int) < lenL L := of_decide_eq_false hge
        have : g = (lenL L).toNat := by have : g ≤ (lenL L).toNat := hg; omega
        subst this
        have q1 : (startsL L).length ≤ 1000000000 := by rw [startsL_len]; omega
        simp only [s3, s4, s5, beq_self_eq_true, decide_true, cond_true]
        and_intros
        all_goals first | exact k1 | omega | (intro _; exact q1) | (intro _; exact hB) | (intro _; exact Nat.le_trans (hml _) (by decide)) | trivial
    · intro h2
      exact absurd h2 (by decide)
  · have s1 : startsN R L = [] := if_neg hc
    have s2 : lenN R L = 0 := if_neg hc
    have s3 : confN R L = [] := if_neg hc
    have s4 : soundsN R L = [] := if_neg hc
    have s5 : playN R L = [] := if_neg hc
    have hc' : (chkEds R L == 0) = false := by simpa using hc
    simp only [s1, s2, s3, s4, s5, hc', beq_self_eq_true, decide_true, cond_true, List.length_nil]
    and_intros
    any_goals first | exact k1 | exact k2 | exact hF | omega
    · intro h2; cases h2
    · intro _
      and_intros
      all_goals first | exact k1 | omega | trivial | (intro _; trivial) | (intro _; decide) | (intro _ _ hx; cases hx)

end Go.Sx

/- From readings of arguments to pure data. -/
namespace Go.Sx
open Go.RowKit

/-- What a reading gives beside the cells: numbers fit their kinds, lengths are those of machines. -/
def WF : (t : Ty) → t.T → Prop
  | .int k, n => (Lit.int k n).wf = true
  | .bool, _ => True
  | .str, l => List.length l ≤ maxLen
  | .flt k, n => (Lit.float k n).wf = true
  | .cpx _, _ => True
  | .sl t, xs => List.length xs ≤ maxLen ∧ ∀ i (h : i < List.length xs), WF t (xs[i]'h)
  | .arr n t, xs => List.length xs = n ∧ ∀ i (h : i < List.length xs), WF t (xs[i]'h)
  | .pair a b, x => WF a x.1 ∧ WF b x.2

mutual
def rdChk (P : Program) : Nat → TypeId → Ty → Bool
  | 0, _, _ => false
  | n + 1, t, u => match P.underlying t with
      | some (.int k) => decide (u = .int k)
      | some .bool => decide (u = .bool)
      | some .string => decide (u = .str)
      | some (.float k) => decide (u = .flt k)
      | some (.slice e) => match u with
        | .sl v => decide (P.cellsOf e = v.sz) && decide (v.sz ≠ 0) && rdChk P n e v
        | _ => false
      | some (.array m e) => match u with
        | .arr m' v => decide (m = m') && decide (P.cellsOf e = v.sz) && decide (P.cellsOf t = m * v.sz) && rdChk P n e v
        | _ => false
      | some (.struct fs) => decide (P.cellsOf t = u.sz) && rdFs P n 0 fs.toList u
      | _ => false
def rdFs (P : Program) : Nat → Nat → List Field → Ty → Bool
  | 0, _, _, _ => false
  | n + 1, off, [f], u => decide (f.offset = off) && decide (P.cellsOf f.type = u.sz) && rdChk P n f.type u
  | n + 1, off, f :: r, .pair a b => decide (f.offset = off) && decide (P.cellsOf f.type = a.sz) && rdChk P n f.type a && rdFs P n (off + a.sz) r b
  | _, _, _, _ => false
end

def HW (w : World) : IH := fun b => w.heap[b]?

theorem addp (b off i : Nat) : (Addr.mk b off none).add i = ⟨b, off + i, none⟩ := by
  unfold Addr.add; split <;> simp_all
theorem cells_seg {w : World} {base : Nat} {a : Addr} {n : Nat} {cs : List Value} (h : w.cells? base a n = some cs) (hn : 0 < n) :
    ∃ b off c e fr, a = ⟨b, off, none⟩ ∧ w.heap[b]? = some (.cells c e fr) ∧ seg c off n = cs := by
  obtain ⟨_, hl, hc⟩ := World.cells?_some h
  obtain ⟨b, off, sp⟩ := a
  have h0 := hc 0 hn
  rw [List.getElem?_eq_getElem (by omega)] at h0
  have hs : sp = none := by
    have := World.cell?_spot h0
    simp only [Addr.add] at this
    cases sp with
    | none => rfl
    | some x => simp at this
  subst hs
  have hb : ∃ c e fr, w.heap[b]? = some (.cells c e fr) := by
    simp only [World.cell?, Addr.add] at h0
    split at h0
    · exact ⟨_, _, _, ‹_›⟩
    · cases h0
  obtain ⟨c, e, fr, hb⟩ := hb
  refine ⟨b, off, c, e, fr, rfl, hb, ?_⟩
  have hi : ∀ i, i < n → c[off + i]? = cs[i]? := by
    intro i hi
    have := hc i hi
    rw [addp] at this
    simpa [World.cell?, hb] using this
  apply List.ext_getElem?
  intro i
  simp only [seg, List.getElem?_take, List.getElem?_drop]
  split
  · rename_i h1
    rw [← hi i h1]; simp
  · rename_i h1
    rw [List.getElem?_eq_none (by omega)]

theorem choose_list {α : Type} (n : Nat) (p : Nat → α → Prop) (h : ∀ i, i < n → ∃ y, p i y) : ∃ ys : List α, ys.length = n ∧ ∀ i (hi : i < ys.length), p i (ys[i]'hi) := by
  induction n with
  | zero => exact ⟨[], rfl, fun i hi => by simp at hi⟩
  | succ n ih =>
    obtain ⟨ys, h1, h2⟩ := ih fun i hi => h i (by omega)
    obtain ⟨y, hy⟩ := h n (by omega)
    refine ⟨ys ++ [y], by simp [h1], fun i hi => ?_⟩
    by_cases hlt : i < ys.length
    · rw [List.getElem_append_left hlt]; exact h2 i hlt
    · simp at hi
      have : i = ys.length := by omega
      subst this
      simp
      rw [h1]; exact hy

theorem trod_rd_all {X : Type} {enc : TypeId × Value → X} {P : Program} {w : World} {base : Nat} {spare : Nat → Bool} {held : Bool} : ∀ (n : Nat),
    (∀ (t : TypeId) (u : Ty) (fuel : Nat) (cs : List Value) (x : DataW X × List MemPlace), rdChk P n t u = true → DataW.trod enc P w base spare held fuel t cs = some x → ∃ y : u.T, Rd (HW w) u y cs ∧ WF u y) ∧
    (∀ (off : Nat) (fs : List Field) (u : Ty) (fuel : Nat) (cs : List Value), rdFs P n off fs u = true → cs.length = off + u.sz →
      (∀ f ∈ fs, ∃ x, DataW.trod enc P w base spare held fuel f.type ((cs.drop f.offset).take (P.cellsOf f.type)) = some x) → ∃ y : u.T, Rd (HW w) u y (cs.drop off) ∧ WF u y) := by
  intro n
  induction n with
  | zero => exact ⟨fun _ _ _ _ _ h => by simp [rdChk] at h, fun _ _ _ _ _ h => by simp [rdFs] at h⟩
  | succ n ih =>
    refine ⟨?_, ?_⟩
    · intro t u fuel cs x h hx
      unfold rdChk at h
      split at h
      · rename_i k hu
        simp at h; subst h
        obtain ⟨m, rfl, _, hw⟩ := DataW.trod_int hu hx
        exact ⟨m, rfl, hw⟩
      · rename_i hu
        simp at h; subst h
        obtain ⟨m, rfl, _⟩ := DataW.trod_bool hu hx
        exact ⟨m, rfl, trivial⟩
      · rename_i hu
        simp at h; subst h
        obtain ⟨s, rfl, _, hw⟩ := DataW.trod_string hu hx
        refine ⟨s.data.toList, rfl, ?_⟩
        show s.data.toList.length ≤ maxLen
        rw [Array.length_toList]; exact hw
      · rename_i k hu
        simp at h; subst h
        cases fuel with
        | zero => simp [DataW.trod] at hx
        | succ m =>
          unfold DataW.trod at hx
          rw [hu] at hx
          have : ∃ b, cs = [.float k b] ∧ (Lit.float k b).wf = true := by split at hx <;> simp_all
          obtain ⟨b, rfl, hw⟩ := this
          exact ⟨b, rfl, hw⟩
      · rename_i e hu
        split at h
        · rename_i v
          simp only [Bool.and_eq_true, decide_eq_true_eq] at h
          obtain ⟨⟨h1, h2⟩, h3⟩ := h
          rcases DataW.trod_slice hu hx with ⟨rfl, _⟩ | ⟨a, len, cap, elems, rest, m, _, rfl, _, _, hlc, hm, hel, hei, _, _⟩
          · exact ⟨[], ⟨none, 0, rfl, Nat.le_refl _, .inl rfl⟩, by simp [WF]⟩
          · have hone : ∀ i, i < len → ∃ cs', w.cells? base (a.add (i * P.cellsOf e)) (P.cellsOf e) = some cs' ∧ ∃ y : v.T, Rd (HW w) v y cs' ∧ WF v y := by
              intro i hi
              have := hei i hi
              rw [List.getElem?_eq_getElem (by omega)] at this
              obtain ⟨cs', hc1, hc2⟩ := Option.bind_eq_some_iff.1 this
              exact ⟨cs', hc1, ih.1 _ _ _ _ _ h3 hc2⟩
            obtain ⟨ys, hy1, hy2⟩ := choose_list len (fun i (y : v.T) => ∃ cs', w.cells? base (a.add (i * P.cellsOf e)) (P.cellsOf e) = some cs' ∧ Rd (HW w) v y cs' ∧ WF v y)
              (fun i hi => by obtain ⟨cs', h1, y, h2⟩ := hone i hi; exact ⟨y, cs', h1, h2⟩)
            refine ⟨ys, ⟨some a, cap, by rw [hy1], by rw [hy1]; exact hlc, ?_⟩, by rw [hy1]; omega, fun i hi => ?_⟩
            · rcases Nat.eq_zero_or_pos ys.length with h0 | h0
              · exact .inl h0
              · right
                obtain ⟨cs0, hc0, _⟩ := hy2 0 h0
                obtain ⟨b, off, c, e', fr, ha, hb, _⟩ := cells_seg hc0 (by omega)
                have ha' : a = ⟨b, off, none⟩ := by rw [← ha]; simp [Addr.add]
                refine ⟨b, off, c, e', fr, by rw [ha'], hb, fun i hi => ?_⟩
                obtain ⟨cs', hc', hr, _⟩ := hy2 i hi
                obtain ⟨b', off', c', e'', fr', hab, hb', hsg⟩ := cells_seg hc' (by omega)
                rw [ha', addp] at hab
                simp only [Addr.mk.injEq] at hab
                obtain ⟨rfl, rfl, _⟩ := hab
                rw [hb] at hb'
                cases hb'
                rw [h1] at hsg
                rw [hsg]; exact hr
            · obtain ⟨_, _, _, hwf⟩ := hy2 i hi
              exact hwf
        · cases h
      · rename_i m e hu
        split at h
        · rename_i m' v
          simp only [Bool.and_eq_true, decide_eq_true_eq] at h
          obtain ⟨⟨⟨rfl, h1⟩, h2⟩, h3⟩ := h
          obtain ⟨xs, k, _, _, hl, hxl, hxi⟩ := DataW.trod_array hu hx
          obtain ⟨ys, hy1, hy2⟩ := choose_list m (fun i (y : v.T) => Rd (HW w) v y ((cs.drop (i * P.cellsOf e)).take (P.cellsOf e)) ∧ WF v y)
            (fun i hi => by
              have := hxi i hi
              rw [List.getElem?_eq_getElem (by omega)] at this
              exact ih.1 _ _ _ _ _ h3 this)
          refine ⟨ys, ⟨hy1, by rw [hl, h2], fun i hi => ?_⟩, hy1, fun i hi => (hy2 i hi).2⟩
          have := (hy2 i hi).1
          rw [h1] at this
          exact this
        · cases h
      · rename_i fs hu
        simp only [Bool.and_eq_true, decide_eq_true_eq] at h
        obtain ⟨xs, k, _, _, hl, hxl, hxi⟩ := DataW.trod_struct hu hx
        have := ih.2 0 fs.toList u k cs h.2 (by rw [hl, h.1]; omega) (fun f hf => by
          obtain ⟨i, hi, rfl⟩ := List.mem_iff_getElem.1 hf
          simp at hi
          have := hxi i fs[i] (by simp [hi])
          rw [List.getElem?_eq_getElem (by omega)] at this
          exact ⟨_, by simpa using this⟩)
        simpa using this
      · cases h
    · intro off fs u fuel cs h hl hf
      match fs, u, h, hl, hf with
      | [], u, h, _, _ => simp [rdFs] at h
      | [f], u, h, hl, hf =>
        simp only [rdFs, Bool.and_eq_true, decide_eq_true_eq] at h
        obtain ⟨⟨rfl, h1⟩, h2⟩ := h
        obtain ⟨x, hx⟩ := hf f (by simp)
        rw [h1, List.take_of_length_le (by simp; omega)] at hx
        exact ih.1 _ _ _ _ _ h2 hx
      | f :: g :: r, .pair a b, h, hl, hf =>
        simp only [rdFs, Bool.and_eq_true, decide_eq_true_eq] at h
        obtain ⟨⟨⟨rfl, h1⟩, h2⟩, h3⟩ := h
        simp only [Ty.sz] at hl
        obtain ⟨x, hx⟩ := hf f (by simp)
        rw [h1] at hx
        obtain ⟨y1, hy1, hw1⟩ := ih.1 _ _ _ _ _ h2 hx
        obtain ⟨y2, hy2, hw2⟩ := ih.2 _ _ _ fuel cs h3 (by omega) (fun g' hg => hf g' (List.mem_cons_of_mem _ hg))
        refine ⟨(y1, y2), ⟨hy1, ?_⟩, hw1, hw2⟩
        rw [List.drop_drop]; exact hy2
      | _ :: _ :: _, .int _, h, _, _ => simp [rdFs] at h
      | _ :: _ :: _, .bool, h, _, _ => simp [rdFs] at h
      | _ :: _ :: _, .str, h, _, _ => simp [rdFs] at h
      | _ :: _ :: _, .flt _, h, _, _ => simp [rdFs] at h
      | _ :: _ :: _, .cpx _, h, _, _ => simp [rdFs] at h
      | _ :: _ :: _, .sl _, h, _, _ => simp [rdFs] at h
      | _ :: _ :: _, .arr _ _, h, _, _ => simp [rdFs] at h

theorem trod_rd {X : Type} {enc : TypeId × Value → X} {P : Program} {w : World} {base : Nat} {spare : Nat → Bool} {held : Bool} (n : Nat)
    {t : TypeId} {u : Ty} (h : rdChk P n t u = true) {fuel : Nat} {cs : List Value} {x : DataW X × List MemPlace} (hx : DataW.trod enc P w base spare held fuel t cs = some x) : ∃ y : u.T, Rd (HW w) u y cs ∧ WF u y :=
  (trod_rd_all n).1 t u fuel cs x h hx
end Go.Sx

/- From readings of arguments to pure data: arguments, variables, what is left behind. -/
namespace Go.Sx
open Go.RowKit Go.ChangeShapes Go.WideShapes Go.ChangeAt

section
variable {X : Type} {enc : TypeId × Value → X} {P : Program} {w : World} {base base' : Nat} {spare : Nat → Bool} {held : Bool} {n : Nat} {t : TypeId} {u : Ty} {v : Value} {d : DataW X} {ps : List MemPlace}

theorem cells_one (hv : ∀ cs, v ≠ .agg cs) : v.cells.toList = [v] := by
  cases v <;> simp_all [Value.cells]

theorem okWide_one (ha : aggOf P t = false) (hok : Value.okWide P w .any base' t v) : ∀ cs, v ≠ .agg cs := by
  intro cs hv
  subst hv
  unfold aggOf at ha
  unfold Value.okWide at hok
  split at hok
  · rename_i h; rw [h] at ha; cases ha
  · rename_i h; rw [h] at ha; cases ha
  · unfold Cell.okWide at hok
    split at hok <;> try (rename_i h; cases h; done)
    all_goals first | (rename_i h _; cases h; done) | skip
    all_goals first | (unfold Cell.ok at hok; split at hok <;> first | (exact hok) | (rename_i h; cases h; done) | (rename_i h _; cases h; done) | simp_all; done) | simp_all

theorem arg_one (h : rdChk P n t u = true) (ha : aggOf P t = false) (hok : Value.okWide P w .any base' t v) (hT : DataW.Trod enc P w base spare held t v d ps) : ∃ y : u.T, Rd (HW w) u y [v] ∧ WF u y := by
  obtain ⟨fuel, hT⟩ := hT
  rw [cells_one (okWide_one ha hok)] at hT
  exact trod_rd n h hT

theorem arg_agg (h : rdChk P n t u = true) (ha : aggOf P t = true) (hok : Value.okWide P w .any base' t v) (hT : DataW.Trod enc P w base spare held t v d ps) : ∃ (vs : List Value) (y : u.T), v = .agg ⟨vs⟩ ∧ Rd (HW w) u y vs ∧ WF u y := by
  obtain ⟨fuel, hT⟩ := hT
  have hv : ∃ cs, v = .agg cs := by
    unfold aggOf at ha
    unfold Value.okWide at hok
    split at hok
    · exact ⟨_, hok.choose_spec.1⟩
    · exact ⟨_, hok.choose_spec.1⟩
    · rename_i h1 h2
      split at ha
      · exact absurd ‹_› (h1 _)
      · exact absurd ‹_› (h2 _ _)
      · cases ha
  obtain ⟨cs, rfl⟩ := hv
  obtain ⟨y, h1, h2⟩ := trod_rd n h hT
  exact ⟨cs.toList, y, rfl, h1, h2⟩
end

theorem trodAll_below {X : Type} {enc : TypeId × Value → X} {P : Program} (hl : laidOutB P = true) {W W' : World} (hb : Below W.heap.size W W') : ∀ {ts : List TypeId} {vs : List Value} {ds : List (DataW X)} {ps : List MemPlace},
    (ts.all fun t => P.readableRec t && decide (t < P.types.size)) = true → DataW.TrodAll enc P W 0 (fun _ => true) true ts vs ds ps → (∀ x ∈ ps, x.block < W.heap.size) → DataW.TrodAll enc P W' 0 (fun b => decide (b < W.heap.size)) true ts vs ds ps
  | [], vs, ds, ps, _, h, _ => by
    cases vs <;> cases ds <;> simp_all [DataW.TrodAll]
  | t :: ts, vs, ds, ps, ht, h, hlt => by
    obtain ⟨v, vs', d, ds', p, q, rfl, rfl, rfl, h1, h2⟩ := trodAll_cons h
    simp only [List.all_cons, Bool.and_eq_true, decide_eq_true_eq] at ht
    refine trodAll_cons_mk (Below.trod hl ht.1.1 ht.1.2 h1 hb fun x hx => hlt x (by simp [hx])) (trodAll_below hl hb ht.2 h2 fun x hx => hlt x (by simp [hx]))

/-- What a law leaves behind: true, and the arguments as they were. -/
theorem law_post {X : Type} {enc : TypeId × Value → X} {P : Program} (hl : laidOutB P = true) {s : ChangeSpec} {f : Func} {tb : TypeId} {W W' : World} {args : Array Value} {ds gs : List (DataW X)} {before : List MemPlace} {r : Value}
    (hvars : s.vars = []) (hts : (f.params.toList.all fun t => P.readableRec t && decide (t < P.types.size)) = true) (hres : f.resultTypes = #[tb]) (htb : P.underlying tb = some .bool)
    (hfn : s.fn X ds = { results := [.lit (.bool true)], args := ds })
    (hW : DataW.Whole enc P f.params.toList s.vars false W args.toList ds gs before) (hb : Below W.heap.size W W') (hr : r = .bool true) :
    s.post enc P f false true false false W args r W' := by
  subst hr
  have hW' := hW
  obtain ⟨p, q, hA, hV, rfl, hfz, hnd⟩ := hW
  rw [hvars] at hV
  obtain ⟨rfl, rfl⟩ := trodVars_none hV
  have hlt : ∀ x ∈ p, x.block < W.heap.size := fun x hx => hW'.lt x (by simp [hx])
  refine ⟨ds, [], p ++ [], [], p, [], hW', ?_, ?_, ?_, hb.frame _, fun h => by cases h⟩
  · rw [List.append_nil, hfn, hres]
    exact trodAll_cons_mk (shut_bool htb _) trodAll_mk0
  · rw [List.append_nil, hfn]
    exact trodAll_below hl hb hts hA hlt
  · rw [List.append_nil, hfn, hvars]
    rfl

theorem law_calls {X : Type} {enc : TypeId × Value → X} {P : Program} (hl : laidOutB P = true) {s : ChangeSpec} {f : Func} {tb : TypeId} {fid : FuncId} {W : World} {args : Array Value} {ds gs : List (DataW X)} {before : List MemPlace}
    (hvars : s.vars = []) (hts : (f.params.toList.all fun t => P.readableRec t && decide (t < P.types.size)) = true) (hres : f.resultTypes = #[tb]) (htb : P.underlying tb = some .bool)
    (hfn : s.fn X ds = { results := [.lit (.bool true)], args := ds })
    (hW : DataW.Whole enc P f.params.toList s.vars false W args.toList ds gs before)
    {gl : Nat → Option ((t : Ty) × t.T)} {avs : List V} (hF : Fn P gl fid avs (.val (.one (.bool true))) true) (hg : GlobOk gl (HW W)) (ha : DenVs ρ0 (HW W) avs args.toList) :
    Calls P fid args W fun e W' => ∃ v, e = .returned v ∧ s.post enc P f false true false false W args v W' := by
  refine (hF W (HW W) args.toList (fun b o h => h) hg ha).mono fun e W' h => ?_
  obtain ⟨v, H', rfl, hb, _, _, hd⟩ := h
  exact ⟨v, rfl, law_post hl hvars hts hres htb hfn hW hb hd.2⟩

theorem glob_tab {P : Program} {W : World} {name : String} {k : IntKind} {zs : List Int} {g : Nat} (h : Lib.TabIs P W name k zs) (hg : P.globalNamed name = some g) :
    ∃ c e fr, HW W g = some (.cells c e fr) ∧ Rd (HW W) (.arr zs.length (.int k)) zs (seg c 0 (zs.length * 1)) ∧ c.size = zs.length * 1 := by
  unfold Lib.TabIs at h
  simp only [World.var?, hg, Option.bind_some] at h
  split at h
  · rename_i cs e fr hh
    cases h
    refine ⟨_, _, _, hh, ?_, by simp⟩
    have e1 : seg (zs.map fun z => Value.int k z).toArray 0 (zs.length * 1) = zs.map fun z => Value.int k z := by
      simp [seg, List.take_of_length_le]
    rw [e1]
    refine ⟨rfl, by simp [Ty.sz], fun i hi => ?_⟩
    show List.take 1 (List.drop (i * 1) (List.map (fun z => Value.int k z) zs)) = [Value.int k zs[i]]
    simp only [Nat.mul_one]
    rw [List.drop_eq_getElem_cons (by simpa using hi)]
    simp
  · cases h
end Go.Sx

/- What a row's list of variables gives, wherever a variable stands on it. -/
namespace Go.Sx
open Go.RowKit

theorem laid_at {P : Program} {W : World} {name : String} {d : DataW Unit} {l : List (String × DataW Unit)} (h : laidMet P l W) (hm : (name, d) ∈ l) :
    ∃ g t cs fuel p, P.globalNamed name = some g ∧ (P.globals[g]?).map (·.type) = some t ∧ W.var? P name = some cs ∧ DataW.trod (fun _ => ()) P W 0 (fun _ => true) false fuel t cs.toList = some (d, p) := by
  obtain ⟨ps, h, hrest⟩ := h
  clear hrest
  induction l generalizing ps with
  | nil => cases hm
  | cons x r ih =>
    obtain ⟨n, e⟩ := x
    obtain ⟨g, t, cs, fuel, p, q, h1, h2, h3, h4, h5, h6⟩ := h
    rcases List.mem_cons.1 hm with e | hm
    · cases e; exact ⟨g, t, cs, fuel, p, h1, h2, h3, h4⟩
    · exact ih hm _ h5

theorem tab_at {P : Program} {W : World} {name : String} {k : IntKind} {zs : List Int} {l : List (String × DataW Unit)} {g : Nat} {t e : TypeId} {n : Nat} (hm : (name, Lib.tabData k zs) ∈ l)
    (hg : P.globalNamed name = some g) (hty : (P.globals[g]?).map (·.type) = some t) (ht : P.underlying t = some (.array n e)) (he : P.underlying e = some (.int k)) (hce : P.cellsOf e = 1) (hct : P.cellsOf t = n)
    (h : laidMet P l W) : Lib.TabIs P W name k zs := by
  obtain ⟨g', t', cs, fuel, p, h1, h2, h3, h4⟩ := laid_at h hm
  obtain rfl := Option.some.inj (hg.symm.trans h1)
  obtain rfl := Option.some.inj (hty.symm.trans h2)
  unfold Lib.TabIs
  rw [h3, ← Lib.cells_of_tab ht he hce hct h4]

theorem var_heap {P : Program} {W : World} {name : String} {g : Nat} {cs : Array Value} (hg : P.globalNamed name = some g) (h : W.var? P name = some cs) : ∃ e fr, W.heap[g]? = some (.cells cs e fr) := by
  simp only [World.var?, hg, Option.bind_some] at h
  split at h
  · rename_i cs' e fr hh
    cases h
    exact ⟨e, fr, hh⟩
  · cases h

theorem pair_at {P : Program} {W : World} {name : String} {k k' : IntKind} {a b : Int} {l : List (String × DataW Unit)} {g : Nat} {t : TypeId} {fs : Array Field} {f0 f1 : Field} (hm : (name, .agg [.lit (.int k a), .lit (.int k' b)]) ∈ l)
    (hg : P.globalNamed name = some g) (hty : (P.globals[g]?).map (·.type) = some t) (ht : P.underlying t = some (.struct fs)) (hfs : fs.toList = [f0, f1]) (ho0 : f0.offset = 0) (ho1 : f1.offset = 1)
    (hc0 : P.cellsOf f0.type = 1) (hc1 : P.cellsOf f1.type = 1) (hu0 : P.underlying f0.type = some (.int k)) (hu1 : P.underlying f1.type = some (.int k')) (hct : P.cellsOf t = 2)
    (h : laidMet P l W) : ∃ c e fr, HW W g = some (.cells c e fr) ∧ Rd (HW W) (.pair (.int k) (.int k')) (a, b) (seg c 0 2) ∧ c.size = 2 := by
  obtain ⟨g', t', cs, fuel, p, h1, h2, h3, h4⟩ := laid_at h hm
  obtain rfl := Option.some.inj (hg.symm.trans h1)
  obtain rfl := Option.some.inj (hty.symm.trans h2)
  obtain ⟨e, fr, hh⟩ := var_heap hg h3
  refine ⟨cs, e, fr, hh, ?_⟩
  have hcs : cs.toList = [.int k a, .int k' b] := by
    cases fuel with
    | zero => simp [DataW.trod] at h4
    | succ fuel =>
      simp only [DataW.trod, ht, hct, hfs, hc0, hc1, ho0, ho1, List.mapM_cons, List.mapM_nil] at h4
      split at h4
      · rename_i hl
        obtain ⟨xs, hx1, hx2⟩ := Option.map_eq_some_iff.1 h4
        simp only [Option.bind_eq_bind, Option.bind_eq_some_iff, Option.pure_def, Option.some.injEq] at hx1
        obtain ⟨y0, hy0, r, ⟨y1, hy1, r2, rfl, rfl⟩, rfl⟩ := hx1
        obtain ⟨m0, e0, hz0, _⟩ := DataW.trod_int hu0 hy0
        obtain ⟨m1, e1, hz1, _⟩ := DataW.trod_int hu1 hy1
        subst hz0 hz1
        simp only [List.map_cons, List.map_nil, Prod.mk.injEq, DataW.agg.injEq, List.cons.injEq, DataW.lit.injEq, Lit.int.injEq, true_and, and_true] at hx2
        obtain ⟨⟨rfl, rfl⟩, _⟩ := hx2
        match hq : cs.toList, hl with
        | [u, v], _ =>
          rw [hq] at e0 e1
          simp at e0 e1
          rw [e0, e1]
      · cases h4
  have hs : seg cs 0 2 = [.int k a, .int k' b] := by unfold seg; rw [hcs]; rfl
  rw [hs]
  exact ⟨⟨rfl, rfl⟩, by rw [← Array.length_toList, hcs]; rfl⟩

def intB (P : Program) (t : TypeId) (k : IntKind) : Bool := match P.underlying t with
  | some (.int q) => decide (q = k)
  | _ => false
theorem intB_ok {P : Program} {t : TypeId} {k : IntKind} (h : intB P t k = true) : P.underlying t = some (.int k) := by
  unfold intB at h
  split at h
  · rename_i q hq
    rw [hq, of_decide_eq_true h]
  · cases h
/-- A struct of two numbers. -/
def pairB (P : Program) (t : TypeId) (k k' : IntKind) : Bool := match P.underlying t with
  | some (.struct fs) => match fs.toList with
    | [f0, f1] => decide (f0.offset = 0) && decide (f1.offset = 1) && decide (P.cellsOf f0.type = 1) && decide (P.cellsOf f1.type = 1) && intB P f0.type k && intB P f1.type k' && decide (P.cellsOf t = 2)
    | _ => false
  | _ => false
theorem pair_at' {P : Program} {W : World} {name : String} {k k' : IntKind} {a b : Int} {l : List (String × DataW Unit)} {g : Nat} {t : TypeId} (hm : (name, .agg [.lit (.int k a), .lit (.int k' b)]) ∈ l)
    (hg : P.globalNamed name = some g) (hty : (P.globals[g]?).map (·.type) = some t) (hc : pairB P t k k' = true) (h : laidMet P l W) :
    ∃ c e fr, HW W g = some (.cells c e fr) ∧ Rd (HW W) (.pair (.int k) (.int k')) (a, b) (seg c 0 2) ∧ c.size = 2 := by
  unfold pairB at hc
  split at hc
  · rename_i fs hu
    split at hc
    · rename_i f0 f1 hfs
      simp only [Bool.and_eq_true, decide_eq_true_eq] at hc
      obtain ⟨⟨⟨⟨⟨⟨h1, h2⟩, h3⟩, h4⟩, h5⟩, h6⟩, h7⟩ := hc
      exact pair_at hm hg hty hu hfs h1 h2 h3 h4 (intB_ok h5) (intB_ok h6) h7 h
    · cases hc
  · cases hc

theorem rd_pair {H : IH} {a b : Ty} {x : (Ty.pair a b).T} {cs : List Value} (h : Rd H (.pair a b) x cs) : ∃ c1 c2, cs = c1 ++ c2 ∧ Rd H a x.1 c1 ∧ Rd H b x.2 c2 :=
  ⟨_, _, (List.take_append_drop a.sz cs).symm, h.1, h.2⟩
theorem wf_i64 {n : Int} (h : (Lit.int .i64 n).wf = true) : fits .i64 n := by
  simp [Lit.wf, IntKind.min, IntKind.max, IntKind.signed, IntKind.bits] at h
  simp only [fits]
  omega
theorem wf_i8 {n : Int} (h : (Lit.int .i8 n).wf = true) : fits .i8 n := by
  simp [Lit.wf, IntKind.min, IntKind.max, IntKind.signed, IntKind.bits] at h
  simp only [fits]
  omega
theorem wf_u8 {n : Int} (h : (Lit.int .u8 n).wf = true) : fits .u8 n := by
  simp [Lit.wf, IntKind.min, IntKind.max, IntKind.signed, IntKind.bits] at h
  simp only [fits]
  omega
theorem wf_mem {t : Ty} {xs : List t.T} (h : WF (.sl t) xs) : ∀ x ∈ xs, WF t x := by
  intro x hx
  obtain ⟨i, hi, rfl⟩ := List.mem_iff_getElem.1 hx
  exact h.2 i hi
end Go.Sx

/- Facts of the program that every row asks. -/
namespace Go.Sx
theorem j3a : laidOutB Proofs.Tryz.prog = true := by kernel_rfl
theorem j3b : mapsRowed Proofs.Tryz.prog = true := by kernel_rfl
theorem j3c : Proofs.Tryz.prog.stopsHeard = true := by kernel_rfl
theorem j3d : Proofs.Tryz.prog.mayEnter = true := by kernel_rfl
end Go.Sx
