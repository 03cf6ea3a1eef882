/- A verified symbolic run of functions, part 17: lemmas, no claim of their own. -/
import Derived.Test.YtjbfcdgbjgjliaaGreatDoorS16
import Derived.Lib.Split
import Derived.Lib.AtoiTie
import Derived.Lib.ItoaNum
import Derived.Lib.Strings
import Derived.Lib.AtoiAllCases
namespace Go.Sx.U
abbrev Str := List UInt8
noncomputable def hd {α : Type} (x : α) : α := Classical.choose (⟨x, rfl⟩ : ∃ y, y = x)
theorem hd_eq {α : Type} (x : α) : hd x = x := Classical.choose_spec (⟨x, rfl⟩ : ∃ y, y = x)
noncomputable def ixB (s : Str) (c : Int) : Int := hd (Lib.indexByte s c.toNat.toUInt8)
noncomputable def atV (w : Str) : Int := hd (atoV w)
noncomputable def atE (w : Str) : Bool := hd (atoE w)
noncomputable def hsf (s p : Str) : Bool := hd (Lib.hasSuffix s p)
noncomputable def tsf (s p : Str) : Str := hd (Lib.trimSuffix s p)
noncomputable def tpf (s p : Str) : Str := hd (Lib.trimPrefix s p)
noncomputable def flt (l : List (List Int)) : List Int := hd (List.flatten l)
noncomputable def anyL (l : List Int) : Bool := hd (l.any lgI)
noncomputable def spl (s p : Str) : List Str := hd (Lib.split s p)
noncomputable def wrW (w : Str) : Bool := atE w || decide (9 < (tpf w [45]).length) || !decide (Lib.itoa (atV w) = w)
noncomputable def wrTo (ws : List Str) : Nat → Bool
  | 0 => false
  | n + 1 => wrTo ws n || wrW (List.getD ws n [])
noncomputable def lineOf (r : Str) : Str := if 0 ≤ ixB r 10 then List.take (ixB r 10 + 1).toNat r else r
noncomputable def restOf (r : Str) : Str := if 0 ≤ ixB r 10 then List.drop (ixB r 10 + 1).toNat r else []
noncomputable def restTo (s : Str) : Nat → Str
  | 0 => s
  | g + 1 => restOf (restTo s g)
noncomputable def wdsAt (s : Str) (g : Nat) : List Str := spl (tsf (lineOf (restTo s g)) [10]) [32]
noncomputable def tlAt (s : Str) (g : Nat) : List Str := List.drop 1 (wdsAt s g)
noncomputable def numsAt (s : Str) (g : Nat) : List Int := (tlAt s g).map atV
noncomputable def headW (g : Nat) : Str := (Option.getD (mapGet (.int .i64) (.pair .str .fnp) fldM (g : Int)) ([], none)).1
noncomputable def goodAt (s : Str) (g : Nat) : Bool := hsf (lineOf (restTo s g)) [10] && decide (g < 3) && decide (List.getD (wdsAt s g) 0 [] = headW g) && !wrTo (tlAt s g) (tlAt s g).length
noncomputable def listsTo (s : Str) (g : Nat) : List (List Int) := tab g (numsAt s)
noncomputable def endE (s : Str) (g : Nat) : Int := first [whenE (decide ((g : Int) < 3)) 2, whenE (anyL (flt (listsTo s g))) 3]
noncomputable def sixL (s : Str) (g : Nat) : List Nat := (numsAt s g).map smp
noncomputable def finP (s : Str) (g : Nat) : Pt × Int × Int :=
  if endE s g ≠ 0 then (([], [], []), (g : Int), endE s g)
  else if chkPt (sixL s 0) (sixL s 1) (sixL s 2) ≠ 0 then (([], [], []), (g : Int), chkPt (sixL s 0) (sixL s 1) (sixL s 2))
  else ((sixL s 0, sixL s 1, sixL s 2), 0, 0)
noncomputable def badP (g : Nat) : Pt × Int × Int := (([], [], []), (g : Int), 25)
noncomputable def prsG (s : Str) : Nat → Nat → Pt × Int × Int
  | 0, g => badP g
  | n + 1, g => if restTo s g = [] then finP s g else if goodAt s g = true then prsG s n (g + 1) else badP g
def preA (s : Str) (k : Nat) : Prop := ∀ i, i < k → restTo s i ≠ [] ∧ goodAt s i = true
noncomputable def prsN (s : Str) : Pt × Int × Int := if 4096 < s.length then (([], [], []), 0, 26) else prsG s 4 0
end Go.Sx.U
namespace Go.Sx
open U
noncomputable def sp189 : FSpec := ⟨fun vs => match vs with
  | [.one (.str s), .one (.int .u8 c)] => some ([], .val (.one (.int .i64 (ixB s c))))
  | _ => none, true⟩
noncomputable def sp154 : FSpec := ⟨fun vs => match vs with
  | [.one (.str s), .one (.str p)] => some ([List.length s ≤ 1000000000], .tup [.one (.str (tsf s p)), .one (.bool (hsf s p))])
  | _ => none, true⟩
noncomputable def sp193 : FSpec := ⟨fun vs => match vs with
  | [.one (.str s), .one (.str p)] => some ([], .val (.one (.str (tpf s p))))
  | _ => none, true⟩
noncomputable def sp155 : FSpec := ⟨fun vs => match vs with
  | [.one (.str s), .one (.str p)] => some ([1 ≤ List.length p, List.length s ≤ 1000000000], .val (.one (.frs .str (spl s p))))
  | _ => none, true⟩
noncomputable def sp192 : FSpec := ⟨fun vs => match vs with
  | [.one (.str s)] => some ([List.length s ≤ 1000000000], .tup [.one (.int .i64 (atV s)), .one (.err (atE s))])
  | _ => none, true⟩
def strB (s : St) (t : Nat) : Option (Nat × Str) := match lookT s.tm t with
  | some (.val (.one (.ptr id 0))) => match lookO s.ob id with
    | some (.box [.one (.str r)]) => some (id, r)
    | _ => none
  | _ => none
noncomputable def sp158h : FSpec := ⟨fun vs => match vs with
  | [.one (.sl (.sl (.int .i64)) l)] => some ([List.length l ≤ 1000, List.length (flt l) ≤ 1000000], .val (.one (.frs (.int .i64) (flt l))))
  | _ => none, true⟩
def lsAt (s : St) (b : Nat) : Option (List Nat × Nat) := match lookO s.ob b with
  | some (.box [.one .nils]) => some ([], 0)
  | some (.box [.one (.own id)]) => match lookO s.ob id with
    | some (.row (.sl (.int .i64)) L) => some ([id], List.length (show List (List Int) from L))
    | _ => none
  | _ => none
def lsB (s : St) : Option (List Nat × Nat) := lsAt s 24
def lsO (s : St) : List Nat := match lsAt s 24 with
  | some (o, _) => o
  | none => []
def arm (k : Nat) (F : ((Nat → List Int) → List (List Int)) → LInv) : Option LInv := match k with
  | 0 => some (F fun _ => [])
  | 1 => some (F fun l => [l 0])
  | 2 => some (F fun l => [l 0, l 1])
  | 3 => some (F fun l => [l 0, l 1, l 2])
  | _ => none
def stopL (s : St) : LInv := ⟨Nat, fun _ => ⟨[], [], s.nx, s.lr⟩, fun _ => True, fun _ => 0⟩
noncomputable def h89 (x : Str) : Hints := ⟨fun f k s => match f, k with
  | 188, 1000001 => match strB s 1 with
    | some (r, _) => match lsB s with
      | some (_, k) => arm k fun mk => ⟨Str × (Nat → List Int), fun g => ⟨keepC [0, 1] s.tm, (r, some (.box [.one (.str g.1)])) :: (24, some (.box [.one (.own s.nx)])) :: (s.nx, some (.row (.sl (.int .i64)) (mk g.2))) :: obK s [32, 0, 4, 8], s.nx + 1, s.lr⟩,
        fun g => preA x k ∧ g.1 = restTo x k ∧ g.1 ≠ [] ∧ ∀ i, i < k → g.2 i = numsAt x i, fun _ => 0⟩
      | none => none
    | _ => none
  | 89, 12 => match listAs s 10 .str, ptrM s 11 with
    | some ws, some b => some ⟨Nat, fun j => ⟨(13, .val (.one (.own s.nx))) :: keepC [2, 3, 4, 5, 6, 9, 10, 11, 12] s.tm, (s.nx, some (.row (.int .i64) ((List.take j (List.drop 1 ws)).map atV))) :: (b, some (.box [.one (.sl .str (List.drop j (List.drop 1 ws))), .one (.bool (wrTo (List.drop 1 ws) j))])) :: obK s ([24, 32, 44, 0, 4, 8] ++ lsO s), s.nx + 1, s.lr⟩,
        fun j => j ≤ List.length (List.drop 1 ws), fun j => List.length (List.drop 1 ws) - j⟩
    | _, _ => none
  | 188, 1000006 => match lookT s.tm 20 with
    | some _ => some ⟨Nat, fun _ => ⟨keepC [0, 1, 3] s.tm, obK s ([24, 32, 44, 0, 4, 8] ++ lsO s), s.nx + 1000000000000, s.lr⟩, fun _ => True, fun _ => 0⟩
    | none => none
  | 89, 1000018 => bif Nat.ble 1000000000000 s.nx then some (stopL s) else match lsB s with
    | some (_, 3) => some (stopL s)
    | _ => none
  | 89, 1000019 => match boxX s 5, lsB s with
    | some (_, X), some (_, k) => arm k fun mk => ⟨Nat → List Int, fun l => ⟨keepC [2, 3, 4, 5, 6] s.tm, (24, some (.box [.one (.own s.nx)])) :: (s.nx, some (.row (.sl (.int .i64)) (mk l))) :: obK s [32, 0, 4, 8], s.nx + 1, s.lr⟩, fun l => mk l = X, fun _ => 0⟩
    | _, _ => none
  | 89, 1000020 => match lsB s with
    | some (_, 3) => none
    | _ => some ⟨Nat, fun _ => ⟨(17, .val (.one (.int .i64 2))) :: keepC [2, 3, 4, 5] s.tm, obK s ([24, 0, 4, 8] ++ lsO s), s.nx, s.lr⟩, fun _ => True, fun _ => 0⟩
  | _, _ => none, 5⟩
@[reducible] noncomputable def fb153 : Nat × Func := (153, Proofs.Tryz.f153)
@[reducible] noncomputable def fb188 : Nat × Func := (188, Proofs.Tryz.f188)
@[reducible] noncomputable def fb156 : Nat × Func := (156, Proofs.Tryz.f156)
end Go.Sx
namespace Go.Sx
open U
noncomputable def sp157 : FSpec := ⟨fun vs => match vs with
  | [.one (.sl (.int .i64) l), .one (.fn 130 [] [])] => some ([List.length l ≤ 1000000], .val (bV (anyL l)))
  | _ => none, true⟩
end Go.Sx

namespace Go.Sx.U
open Go
def sB (c : UInt8) : List UInt8 → List (List UInt8)
  | [] => [[]]
  | x :: t => if x = c then [] :: sB c t else (x :: (sB c t).headD []) :: (sB c t).tail
theorem sB_ne (c : UInt8) : ∀ s : List UInt8, sB c s ≠ []
  | [] => by simp [sB]
  | x :: t => by unfold sB; split <;> simp
theorem sB_len (c : UInt8) : ∀ s : List UInt8, 1 ≤ (sB c s).length ∧ (sB c s).length ≤ s.length + 1
  | [] => by simp [sB]
  | x :: t => by
    have := sB_len c t
    unfold sB; split
    · simp only [List.length_cons]; omega
    · simp only [List.length_cons, List.length_tail]; omega
theorem sB_mem_len (c : UInt8) : ∀ (s w : List UInt8), w ∈ sB c s → w.length ≤ s.length
  | [], w, h => by simp [sB] at h; simp [h]
  | x :: t, w, h => by
    unfold sB at h
    split at h
    · rcases List.mem_cons.1 h with h | h
      · simp [h]
      · have := sB_mem_len c t w h; simp only [List.length_cons]; omega
    · rcases List.mem_cons.1 h with h | h
      · have hne := sB_ne c t
        cases e : sB c t with
        | nil => exact absurd e hne
        | cons a r =>
          have := sB_mem_len c t a (by rw [e]; simp)
          rw [h, e]; simp only [List.headD_cons, List.length_cons]; omega
      · have := sB_mem_len c t w (List.mem_of_mem_tail h); simp only [List.length_cons]; omega
theorem index_one (c : UInt8) (x : UInt8) (t : List UInt8) : Lib.index (x :: t) [c] = if x = c then 0 else if Lib.index t [c] = -1 then -1 else Lib.index t [c] + 1 := by
  rw [Lib.index]
  by_cases h : x = c
  · subst h; simp
  · have : ([c] : List UInt8).isPrefixOf (x :: t) = false := by
      simp [List.isPrefixOf]; intro e; exact h e.symm
    rw [this]
    simp [h]
theorem split_miss {s sep : List UInt8} (h : Lib.index s sep = -1) : Lib.split s sep = [s] := by
  unfold Lib.split
  rw [Lib.count_miss h]; rfl
theorem split_hit {s sep : List UInt8} {i : Nat} (hs : sep ≠ []) (h : Lib.index s sep = i) : Lib.split s sep = s.take i :: Lib.split (s.drop (i + sep.length)) sep := by
  unfold Lib.split
  rw [Lib.count_hit hs h]
  have : 1 + Lib.count (s.drop (i + sep.length)) sep = Lib.count (s.drop (i + sep.length)) sep + 1 := by omega
  rw [this, Lib.splitK]
  have e : (Lib.index s sep).toNat = i := by omega
  have e2 : ¬ (Lib.index s sep == -1) = true := by rw [beq_iff_eq]; omega
  rw [if_neg e2, e]
  rfl
theorem split_sB (c : UInt8) : ∀ s : List UInt8, Lib.split s [c] = sB c s
  | [] => by rw [split_miss (by rfl)]; rfl
  | x :: t => by
    have ih := split_sB c t
    have hi := index_one c x t
    have hg := Lib.index_ge t [c]
    by_cases hx : x = c
    · subst hx
      rw [if_pos rfl] at hi
      rw [split_hit (i := 0) (by simp) (by rw [hi]; rfl)]
      simp only [List.take_zero, Nat.zero_add, List.length_cons, List.length_nil, List.drop_succ_cons, List.drop_zero]
      rw [ih, sB, if_pos rfl]
    · rw [if_neg hx] at hi
      rw [sB, if_neg hx, ← ih]
      by_cases hm : Lib.index t [c] = -1
      · rw [if_pos hm] at hi
        rw [split_miss hi, split_miss hm]; rfl
      · rw [if_neg hm] at hi
        obtain ⟨i, hj⟩ : ∃ i : Nat, Lib.index t [c] = i := ⟨(Lib.index t [c]).toNat, by omega⟩
        rw [split_hit (i := i + 1) (by simp) (by rw [hi, hj]; rfl), split_hit (i := i) (by simp) hj]
        simp only [List.take_succ_cons, List.length_cons, List.length_nil, List.headD_cons, List.tail_cons, List.cons.injEq, true_and]
        congr 1
theorem ixb_cons (c x : UInt8) (t : List UInt8) : Lib.indexByte (x :: t) c = if x = c then 0 else if Lib.indexByte t c = -1 then -1 else Lib.indexByte t c + 1 := by
  rw [Lib.indexByte]
  by_cases h : x = c
  · simp [h]
  · simp [h]
theorem sB_miss (c : UInt8) : ∀ s : List UInt8, Lib.indexByte s c = -1 → sB c s = [s] ∧ c ∉ s
  | [], _ => ⟨rfl, by simp⟩
  | x :: t, h => by
    rw [ixb_cons] at h
    have hg := Lib.indexByte_ge t c
    split at h
    · omega
    · rename_i hx
      split at h
      · rename_i hm
        have ih := sB_miss c t hm
        refine ⟨by rw [sB, if_neg hx, ih.1]; rfl, ?_⟩
        simp only [List.mem_cons, not_or]
        exact ⟨fun e => hx e.symm, ih.2⟩
      · omega
theorem sB_hit (c : UInt8) : ∀ (s : List UInt8) (i : Nat), Lib.indexByte s c = i → i < s.length ∧ c ∉ s.take i ∧ s.take (i + 1) = s.take i ++ [c] ∧ sB c s = s.take i :: sB c (s.drop (i + 1))
  | [], i, h => by rw [Lib.indexByte] at h; omega
  | x :: t, i, h => by
    rw [ixb_cons] at h
    have hg := Lib.indexByte_ge t c
    split at h
    · rename_i hx
      obtain rfl : i = 0 := by omega
      subst hx
      refine ⟨by simp, by simp, by simp, ?_⟩
      rw [sB, if_pos rfl]; simp
    · rename_i hx
      split at h
      · omega
      · obtain ⟨j, hj⟩ : ∃ j : Nat, Lib.indexByte t c = j := ⟨(Lib.indexByte t c).toNat, by omega⟩
        obtain rfl : i = j + 1 := by omega
        have ih := sB_hit c t j hj
        refine ⟨by simp; omega, ?_, ?_, ?_⟩
        · simp only [List.take_succ_cons, List.mem_cons, not_or]
          exact ⟨fun e => hx e.symm, ih.2.1⟩
        · rw [List.take_succ_cons, ih.2.2.1]; simp
        · rw [sB, if_neg hx, ih.2.2.2]; simp
theorem sB_snoc (c x : UInt8) : ∀ s : List UInt8, sB c (s ++ [x]) = if x = c then sB c s ++ [[]] else (sB c s).dropLast ++ [(sB c s).getLastD [] ++ [x]]
  | [] => by
    by_cases h : x = c <;> simp [sB, h]
  | y :: t => by
    have ih := sB_snoc c x t
    have hne := sB_ne c t
    rw [List.cons_append, sB, sB, ih]
    cases e : sB c t with
    | nil => exact absurd e hne
    | cons a r =>
      by_cases h : x = c <;> by_cases h2 : y = c
      · simp [h, h2]
      · simp [h, h2]
      · simp [h, h2]
      · cases r with
        | nil => simp [h, h2]
        | cons b q => simp [h, h2]
theorem sB_none (c : UInt8) (s : List UInt8) (h : c ∉ s) : sB c s = [s] := by
  induction s with
  | nil => rfl
  | cons x t ih =>
    simp only [List.mem_cons, not_or] at h
    rw [sB, if_neg (fun e => h.1 e.symm), ih h.2]; rfl
theorem sB_app (c : UInt8) (s r : List UInt8) (h : c ∉ s) : sB c (s ++ c :: r) = s :: sB c r := by
  induction s with
  | nil => simp [sB]
  | cons x t ih =>
    simp only [List.mem_cons, not_or] at h
    rw [List.cons_append, sB, if_neg (fun e => h.1 e.symm), ih h.2]; rfl
theorem hasSuffix_last (l : List UInt8) (c : UInt8) : Lib.hasSuffix (l ++ [c]) [c] = true := by
  unfold Lib.hasSuffix
  rw [List.isSuffixOf_iff_suffix]
  exact List.suffix_append _ _
theorem hasSuffix_free (l : List UInt8) (c : UInt8) (h : c ∉ l) : Lib.hasSuffix l [c] = false := by
  unfold Lib.hasSuffix
  cases e : List.isSuffixOf [c] l with
  | false => rfl
  | true =>
    rw [List.isSuffixOf_iff_suffix] at e
    obtain ⟨p, rfl⟩ := e
    simp at h
theorem trimSuffix_last (l : List UInt8) (c : UInt8) : Lib.trimSuffix (l ++ [c]) [c] = l := by
  unfold Lib.trimSuffix
  rw [if_pos (hasSuffix_last l c)]
  simp
def dgB (b : UInt8) : Bool := decide (48 ≤ b.toNat) && decide (b.toNat ≤ 57)
def dgS (l : List UInt8) : Bool := l.all dgB
def dgV (l : List UInt8) : Nat := l.foldl (fun n b => 10 * n + (b.toNat - 48)) 0
def dgOk (l : List UInt8) : Bool := !l.isEmpty && decide (l.length ≤ 9) && !(decide (1 < l.length) && decide (l.headD 0 = 48)) && dgS l
def sgV (w : List UInt8) : Int := if w.headD 0 = 45 then (if dgOk (w.drop 1) then -(dgV (w.drop 1) : Int) else 0) else if dgOk w then (dgV w : Int) else 0
def sgOk (w : List UInt8) : Bool := if w.headD 0 = 45 then dgOk (w.drop 1) && decide (0 < dgV (w.drop 1)) else dgOk w
theorem dgV_snoc (l : List UInt8) (b : UInt8) : dgV (l ++ [b]) = 10 * dgV l + (b.toNat - 48) := by simp [dgV]
theorem decFrom_dg : ∀ (l : List UInt8) (acc : Nat), dgS l = true → Lib.decFrom acc l = some (l.foldl (fun n b => 10 * n + (b.toNat - 48)) acc)
  | [], acc, _ => rfl
  | b :: r, acc, h => by
    have hb : dgB b = true ∧ dgS r = true := by simpa [dgS] using h
    have hv : Lib.digitVal b = some (b.toNat - 48) := by
      unfold dgB at hb
      simp only [Bool.and_eq_true, decide_eq_true_eq] at hb
      unfold Lib.digitVal
      rw [if_pos hb.1]
    rw [Lib.decFrom, hv]
    simp only [List.foldl_cons]
    rw [decFrom_dg r _ hb.2, Nat.mul_comm]
theorem decNat_dg {l : List UInt8} (h0 : l ≠ []) (h : dgS l = true) : Lib.decNat l = some (dgV l) := by
  unfold Lib.decNat
  rw [if_neg (by simpa using h0), decFrom_dg l 0 h]; rfl
def cnD (l : List UInt8) : Prop := l ≠ [] ∧ dgS l = true ∧ (1 < l.length → l.headD 0 ≠ 48)
theorem cnD_ok {l : List UInt8} (h : cnD l) (hl : l.length ≤ 9) : dgOk l = true := by
  unfold dgOk
  have h3 : ¬ (1 < l.length ∧ l.headD 0 = 48) := fun e => h.2.2 e.1 e.2
  have h1 : l.isEmpty = false := by cases l with
    | nil => exact absurd rfl h.1
    | cons _ _ => rfl
  rw [h1, h.2.1, decide_eq_true hl]
  simp only [Bool.not_false, Bool.true_and, Bool.and_true, Bool.not_eq_true', ← Bool.decide_and, decide_eq_false_iff_not]
  exact h3
theorem ok_cnD {l : List UInt8} (h : dgOk l = true) : cnD l ∧ l.length ≤ 9 := by
  unfold dgOk at h
  simp only [Bool.and_eq_true, Bool.not_eq_true', decide_eq_true_eq, ← Bool.decide_and, decide_eq_false_iff_not] at h
  refine ⟨⟨fun e => ?_, h.2, fun h1 h2 => h.1.2 ⟨h1, h2⟩⟩, h.1.1.2⟩
  rw [e] at h; simp at h
theorem dgS_snoc (l : List UInt8) (b : UInt8) : dgS (l ++ [b]) = (dgS l && dgB b) := by simp [dgS]
theorem dgV_pos : ∀ (l : List UInt8), dgS l = true → l ≠ [] → l.headD 0 ≠ 48 → 0 < dgV l := by
  intro l
  have key : ∀ (r : List UInt8) (acc : Nat), acc ≤ r.foldl (fun n (b : UInt8) => 10 * n + (b.toNat - 48)) acc := by
    intro r
    induction r with
    | nil => intro acc; exact Nat.le_refl _
    | cons b r ih => intro acc; simp only [List.foldl_cons]; exact Nat.le_trans (by omega) (ih _)
  cases l with
  | nil => intro _ h; exact absurd rfl h
  | cons b r =>
    intro h _ h3
    have hb : dgB b = true := by
      have : dgB b = true ∧ dgS r = true := by simpa [dgS] using h
      exact this.1
    unfold dgB at hb
    simp only [Bool.and_eq_true, decide_eq_true_eq] at hb
    have hne : b.toNat ≠ 48 := fun e => h3 (UInt8.toNat_inj.1 (by simpa using e))
    unfold dgV
    simp only [List.foldl_cons]
    exact Nat.lt_of_lt_of_le (by omega) (key r _)
theorem dg_byte {b : UInt8} (h : dgB b = true) : UInt8.ofNat (48 + (b.toNat - 48)) = b := by
  unfold dgB at h
  simp only [Bool.and_eq_true, decide_eq_true_eq] at h
  apply UInt8.toNat_inj.1
  rw [UInt8.toNat_ofNat']
  have := b.toNat_lt
  omega
theorem byte_dg {d : Nat} (h : d < 10) : dgB (UInt8.ofNat (48 + d)) = true ∧ (UInt8.ofNat (48 + d)).toNat - 48 = d := by
  have e : (UInt8.ofNat (48 + d)).toNat = 48 + d := by rw [UInt8.toNat_ofNat']; omega
  refine ⟨?_, by omega⟩
  unfold dgB
  rw [e]; simp; omega
theorem snoc_ind {P : List UInt8 → Prop} (h0 : P []) (h1 : ∀ l b, P l → P (l ++ [b])) (l : List UInt8) : P l := by
  rw [← List.reverse_reverse l]
  induction l.reverse with
  | nil => exact h0
  | cons b r ih => rw [List.reverse_cons]; exact h1 _ _ ih
theorem decDigits_dgV (l : List UInt8) : cnD l → Lib.decDigits (dgV l) = l := by
  refine snoc_ind (P := fun l => cnD l → Lib.decDigits (dgV l) = l) (fun h => absurd rfl h.1) (fun l b ih h => ?_) l
  rw [dgV_snoc]
  have hs := h.2.1
  rw [dgS_snoc, Bool.and_eq_true] at hs
  have hb := hs.2
  unfold dgB at hb
  simp only [Bool.and_eq_true, decide_eq_true_eq] at hb
  cases l with
  | nil =>
    have : 10 * dgV [] + (b.toNat - 48) = b.toNat - 48 := by simp [dgV]
    rw [this, Lib.decDigits_one (by omega), dg_byte hs.2]; rfl
  | cons a r =>
    have hh : (a :: r).headD 0 ≠ 48 := by
      have := h.2.2 (by simp)
      simpa using this
    have hp := dgV_pos (a :: r) hs.1 (by simp) hh
    have hc : cnD (a :: r) := ⟨by simp, hs.1, fun _ => hh⟩
    rw [Lib.decDigits, dif_neg (by omega)]
    have e1 : (10 * dgV (a :: r) + (b.toNat - 48)) / 10 = dgV (a :: r) := by omega
    have e2 : (10 * dgV (a :: r) + (b.toNat - 48)) % 10 = b.toNat - 48 := by omega
    rw [e1, e2, ih hc, dg_byte hs.2]
theorem decDigits_cn : ∀ (k u : Nat), u < 10 ^ k → cnD (Lib.decDigits u) ∧ dgV (Lib.decDigits u) = u ∧ (0 < u → (Lib.decDigits u).headD 0 ≠ 48) := by
  intro k
  have one : ∀ u, u < 10 → cnD (Lib.decDigits u) ∧ dgV (Lib.decDigits u) = u ∧ (0 < u → (Lib.decDigits u).headD 0 ≠ 48) := by
    intro u h
    rw [Lib.decDigits_one h]
    have hb := byte_dg h
    refine ⟨⟨by simp, ?_, by simp⟩, ?_, fun h0 e => ?_⟩
    · unfold dgS; rw [List.all_cons, hb.1]; rfl
    · unfold dgV; rw [List.foldl_cons, hb.2]; simp
    simp only [List.headD_cons] at e
    have := hb.2
    rw [e] at this
    have : u = 0 := by rw [← this]; rfl
    omega
  induction k with
  | zero => intro u h; exact one u (by omega)
  | succ k ih =>
    intro u h
    by_cases h10 : u < 10
    · exact one u h10
    · obtain ⟨hc, hv, hh⟩ := ih (u / 10) (by rw [Nat.pow_succ] at h; omega)
      rw [Lib.decDigits, dif_neg h10]
      have hb := byte_dg (d := u % 10) (Nat.mod_lt _ (by omega))
      have hne := hc.1
      have hd : (Lib.decDigits (u / 10) ++ [UInt8.ofNat (48 + u % 10)]).headD 0 = (Lib.decDigits (u / 10)).headD 0 := by
        cases e : Lib.decDigits (u / 10) with
        | nil => exact absurd e hne
        | cons _ _ => rfl
      have h48 := hh (by omega)
      refine ⟨⟨by simp, ?_, fun _ => by rw [hd]; exact h48⟩, ?_, fun _ => by rw [hd]; exact h48⟩
      · rw [dgS_snoc, hc.2.1, hb.1]; rfl
      · rw [dgV_snoc, hv, hb.2]; omega
theorem decDigits_all (u : Nat) : cnD (Lib.decDigits u) ∧ dgV (Lib.decDigits u) = u :=
  let h := decDigits_cn u u (Nat.lt_pow_self (by omega))
  ⟨h.1, h.2.1⟩
theorem dg_head {l : List UInt8} (h : cnD l) : l.headD 0 ≠ 45 ∧ l.headD 0 ≠ 43 := by
  cases l with
  | nil => exact absurd rfl h.1
  | cons b r =>
    have hb : dgB b = true := by
      have : dgB b = true ∧ dgS r = true := by simpa [dgS] using h.2.1
      exact this.1
    unfold dgB at hb
    simp only [Bool.and_eq_true, decide_eq_true_eq] at hb
    simp only [List.headD_cons]
    constructor <;> (rintro rfl; revert hb; decide)
theorem sg_iff (w : List UInt8) : sgOk w = true ↔ (Lib.atoiAll w = .ok (sgV w) ∧ (Lib.trimPrefix w [45]).length ≤ 9 ∧ Lib.itoa (sgV w) = w) := by
  cases w with
  | nil => simp [sgOk, dgOk, Lib.atoiAll]
  | cons b r =>
    by_cases hb : b = 45
    · subst hb
      have ht : Lib.trimPrefix (45 :: r) [45] = r := by simp [Lib.trimPrefix, Lib.hasPrefix, List.isPrefixOf]
      rw [ht]
      have e1 : sgOk (45 :: r) = (dgOk r && decide (0 < dgV r)) := by simp [sgOk]
      have e2 : sgV (45 :: r) = (if dgOk r then -(dgV r : Int) else 0) := by simp [sgV]
      rw [e1, e2]
      constructor
      · intro h
        simp only [Bool.and_eq_true, decide_eq_true_eq] at h
        obtain ⟨hc, hl⟩ := ok_cnD h.1
        rw [if_pos h.1]
        refine ⟨?_, hl, ?_⟩
        · rw [Lib.atoiAll_short _ (by simp; omega)]
          simp only [Lib.atoi]
          rw [decNat_dg hc.1 hc.2.1]; rfl
        · unfold Lib.itoa
          rw [if_pos (by omega)]
          have : (-(dgV r : Int)).natAbs = dgV r := by omega
          rw [this, decDigits_dgV r hc]
      · rintro ⟨h1, h2, h3⟩
        split at h3
        · rename_i hd
          have hc := (ok_cnD hd).1
          unfold Lib.itoa at h3
          split at h3
          · simp only [Bool.and_eq_true, decide_eq_true_eq]; exact ⟨hd, by omega⟩
          · exfalso
            have := dg_head (decDigits_all ((-(dgV r : Int)).toNat)).1
            rw [h3] at this; simp at this
        · exfalso
          unfold Lib.itoa at h3
          rw [if_neg (by omega)] at h3
          have := dg_head (decDigits_all ((0 : Int).toNat)).1
          rw [h3] at this; simp at this
    · have ht : Lib.trimPrefix (b :: r) [45] = b :: r := by
        unfold Lib.trimPrefix
        rw [if_neg]
        simp [Lib.hasPrefix, List.isPrefixOf]; exact fun e => hb e.symm
      rw [ht]
      have e1 : sgOk (b :: r) = dgOk (b :: r) := by simp [sgOk, hb]
      have e2 : sgV (b :: r) = (if dgOk (b :: r) then (dgV (b :: r) : Int) else 0) := by simp [sgV, hb]
      rw [e1, e2]
      constructor
      · intro h
        obtain ⟨hc, hl⟩ := ok_cnD h
        rw [if_pos h]
        have h43 := (dg_head hc).2
        simp only [List.headD_cons] at h43
        refine ⟨?_, hl, ?_⟩
        · rw [Lib.atoiAll_short _ (by omega)]
          simp only [Lib.atoi]
          rw [if_neg (by simpa using hb), if_neg (by simpa using h43), decNat_dg hc.1 hc.2.1]; rfl
        · unfold Lib.itoa
          rw [if_neg (by omega)]
          have : ((dgV (b :: r) : Int)).toNat = dgV (b :: r) := by omega
          rw [this, decDigits_dgV _ hc]
      · rintro ⟨h1, h2, h3⟩
        generalize (if dgOk (b :: r) = true then (dgV (b :: r) : Int) else 0) = m at h3
        unfold Lib.itoa at h3
        by_cases hm : m < 0
        · rw [if_pos hm] at h3
          exfalso; exact hb (List.cons.inj h3).1.symm
        · rw [if_neg hm] at h3
          have hc := (decDigits_all m.toNat).1
          rw [h3] at hc
          exact cnD_ok hc h2
theorem sg_of (w : List UInt8) (n : Int) (h2 : (Lib.trimPrefix w [45]).length ≤ 9) (h3 : Lib.itoa n = w) : sgOk w = true ∧ sgV w = n := by
  unfold Lib.itoa at h3
  split at h3
  · subst h3
    have ht : Lib.trimPrefix (45 :: Lib.decDigits n.natAbs) [45] = Lib.decDigits n.natAbs := by simp [Lib.trimPrefix, Lib.hasPrefix, List.isPrefixOf]
    rw [ht] at h2
    obtain ⟨hc, hv⟩ := decDigits_all n.natAbs
    have hok := cnD_ok hc h2
    have e1 : sgOk (45 :: Lib.decDigits n.natAbs) = (dgOk (Lib.decDigits n.natAbs) && decide (0 < dgV (Lib.decDigits n.natAbs))) := by simp [sgOk]
    have e2 : sgV (45 :: Lib.decDigits n.natAbs) = (if dgOk (Lib.decDigits n.natAbs) then -(dgV (Lib.decDigits n.natAbs) : Int) else 0) := by simp [sgV]
    rw [e1, e2, hok, hv]
    refine ⟨by simp; omega, by simp; omega⟩
  · subst h3
    obtain ⟨hc, hv⟩ := decDigits_all n.toNat
    have hh := (dg_head hc).1
    have ht : Lib.trimPrefix (Lib.decDigits n.toNat) [45] = Lib.decDigits n.toNat := by
      unfold Lib.trimPrefix
      rw [if_neg]
      cases e : Lib.decDigits n.toNat with
      | nil => simp [Lib.hasPrefix, List.isPrefixOf]
      | cons b r =>
        rw [e] at hh
        simp [Lib.hasPrefix, List.isPrefixOf]; exact fun e => hh (by simp [e])
    rw [ht] at h2
    have hok := cnD_ok hc h2
    unfold sgOk sgV
    rw [if_neg hh, if_neg hh, hok, hv]
    exact ⟨rfl, by simp; omega⟩
theorem sg_itoa (n : Int) (h : n.natAbs < 10 ^ 9) : sgOk (Lib.itoa n) = true ∧ sgV (Lib.itoa n) = n := by
  have hl : (Lib.decDigits n.natAbs).length ≤ 9 := by
    rw [Lib.decDigits_length]
    apply Nat.le_of_not_lt
    intro hk
    have hp : ∀ (k u : Nat), u < 10 ^ k → 1 ≤ k → Lib.nDigits u ≤ k := by
      intro k
      induction k with
      | zero => intro u _ h; omega
      | succ k ih =>
        intro u hu _
        by_cases h10 : u < 10
        · rw [Lib.nDigits_small h10]; omega
        · rw [Lib.nDigits_big h10]
          have : 1 ≤ k := by
            apply Nat.succ_le_of_lt; apply Nat.pos_of_ne_zero
            rintro rfl; simp at hu; omega
          have := ih (u / 10) (by rw [Nat.pow_succ] at hu; omega) this
          omega
    have := hp 9 _ h (by omega)
    omega
  refine sg_of _ n ?_ rfl
  unfold Lib.itoa
  split
  · have ht : Lib.trimPrefix (45 :: Lib.decDigits n.natAbs) [45] = Lib.decDigits n.natAbs := by simp [Lib.trimPrefix, Lib.hasPrefix, List.isPrefixOf]
    rw [ht]; exact hl
  · have e : n.toNat = n.natAbs := by omega
    rw [e]
    refine Nat.le_trans ?_ hl
    unfold Lib.trimPrefix; split <;> simp
end Go.Sx.U

namespace Go.Sx.U
open Go.Sx
theorem spl_sB (s : Str) : spl s [32] = sB 32 s := by unfold spl; rw [hd_eq]; exact split_sB 32 s
theorem ixB_nl (r : Str) : ixB r 10 = Lib.indexByte r 10 := by unfold ixB; rw [hd_eq]; rfl
theorem tsf_eq (s p : Str) : tsf s p = Lib.trimSuffix s p := by unfold tsf; rw [hd_eq]
theorem hsf_eq (s p : Str) : hsf s p = Lib.hasSuffix s p := by unfold hsf; rw [hd_eq]
theorem tpf_eq (s p : Str) : tpf s p = Lib.trimPrefix s p := by unfold tpf; rw [hd_eq]
theorem flt_eq (l : List (List Int)) : flt l = l.flatten := by unfold flt; rw [hd_eq]
theorem anyL_eq (l : List Int) : anyL l = l.any lgI := by unfold anyL; rw [hd_eq]
theorem line_cases (r : Str) : (ixB r 10 < 0 ∧ ixB r 10 = -1 ∧ lineOf r = r ∧ restOf r = [] ∧ sB 10 r = [r] ∧ hsf r [10] = false)
    ∨ (∃ i : Nat, ixB r 10 = i ∧ i < r.length ∧ lineOf r = List.take i r ++ [10] ∧ restOf r = List.drop (i + 1) r ∧ sB 10 r = List.take i r :: sB 10 (restOf r) ∧ hsf (lineOf r) [10] = true ∧ tsf (lineOf r) [10] = List.take i r) := by
  have hg := Lib.indexByte_ge r 10
  by_cases h : Lib.indexByte r 10 = -1
  · obtain ⟨h1, h2⟩ := sB_miss 10 r h
    refine .inl ?_
    unfold lineOf restOf
    rw [ixB_nl, h, if_neg (by omega), if_neg (by omega), hsf_eq]
    exact ⟨by omega, rfl, rfl, rfl, h1, hasSuffix_free r 10 h2⟩
  · obtain ⟨i, hi⟩ : ∃ i : Nat, Lib.indexByte r 10 = i := ⟨(Lib.indexByte r 10).toNat, by omega⟩
    obtain ⟨h1, h2, h3, h4⟩ := sB_hit 10 r i hi
    refine .inr ⟨i, ?_⟩
    have e1 : lineOf r = List.take i r ++ [10] := by
      unfold lineOf
      rw [ixB_nl, hi, if_pos (by omega)]
      have : ((i : Int) + 1).toNat = i + 1 := by omega
      rw [this, h3]
    have e2 : restOf r = List.drop (i + 1) r := by
      unfold restOf
      rw [ixB_nl, hi, if_pos (by omega)]
      have : ((i : Int) + 1).toNat = i + 1 := by omega
      rw [this]
    refine ⟨by rw [ixB_nl, hi], h1, e1, e2, by rw [e2]; exact h4, ?_, ?_⟩
    · rw [e1, hsf_eq]; exact hasSuffix_last _ _
    · rw [e1, tsf_eq]; exact trimSuffix_last _ _
theorem lineOf_len (r : Str) : (lineOf r).length ≤ r.length := by unfold lineOf; split <;> simp; omega
theorem restOf_len (r : Str) : (restOf r).length ≤ r.length := by unfold restOf; split <;> simp
theorem restTo_len (s : Str) : ∀ g, (restTo s g).length ≤ s.length
  | 0 => Nat.le_refl _
  | g + 1 => Nat.le_trans (restOf_len _) (restTo_len s g)
theorem ixB_bd (r : Str) : -1 ≤ ixB r 10 ∧ ixB r 10 < r.length ∨ ixB r 10 = -1 := by
  rcases line_cases r with h | ⟨i, h, h2, _⟩
  · exact .inr h.2.1
  · exact .inl ⟨by omega, by omega⟩
theorem tsf_len (s p : Str) : (tsf s p).length ≤ s.length := by
  rw [tsf_eq]; unfold Lib.trimSuffix; split <;> simp
theorem spl_len (s : Str) : 1 ≤ (spl s [32]).length ∧ (spl s [32]).length ≤ s.length + 1 := by rw [spl_sB]; exact sB_len 32 s
theorem spl_mem_len (s w : Str) (h : w ∈ spl s [32]) : w.length ≤ s.length := by rw [spl_sB] at h; exact sB_mem_len 32 s w h
theorem wds_len (s : Str) (g : Nat) : 1 ≤ (wdsAt s g).length ∧ (wdsAt s g).length ≤ s.length + 1 := by
  have := spl_len (tsf (lineOf (restTo s g)) [10])
  have h2 := tsf_len (lineOf (restTo s g)) [10]
  have h3 := lineOf_len (restTo s g)
  have h4 := restTo_len s g
  exact ⟨this.1, Nat.le_trans this.2 (by omega)⟩
theorem nums_len (s : Str) (g : Nat) : (numsAt s g).length ≤ s.length := by
  have := wds_len s g
  unfold numsAt tlAt
  simp only [List.length_map, List.length_drop]; omega
theorem anyL_flt (l : List (List Int)) : anyL (flt l) = l.any fun x => x.any lgI := by
  rw [anyL_eq, flt_eq]
  induction l with
  | nil => rfl
  | cons a r ih => simp only [List.flatten_cons, List.any_append, List.any_cons, ih]
theorem wrW_sg (w : Str) : wrW w = !sgOk w := by
  have hE : atE w = atoE w := by unfold atE; rw [hd_eq]
  have hV : atV w = atoV w := by unfold atV; rw [hd_eq]
  unfold wrW
  rw [hE, hV, tpf_eq]
  cases e : sgOk w with
  | true =>
    obtain ⟨h1, h2, h3⟩ := (sg_iff w).1 e
    have a1 : atoE w = false := by unfold atoE; rw [h1]
    have a2 : atoV w = sgV w := by unfold atoV; rw [h1]
    rw [a1, a2, h3]
    simp; omega
  | false =>
    by_cases h2 : 9 < (Lib.trimPrefix w [45]).length
    · simp [h2]
    · by_cases h3 : Lib.itoa (atoV w) = w
      · have := (sg_of w (atoV w) (by omega) h3).1
        rw [e] at this; cases this
      · simp [h3]
theorem atV_sg (w : Str) (h : sgOk w = true) : atV w = sgV w := by
  have hV : atV w = atoV w := by unfold atV; rw [hd_eq]
  rw [hV]
  unfold atoV
  rw [((sg_iff w).1 h).1]
theorem wrTo_all (ws : List Str) : ∀ n, n ≤ ws.length → (wrTo ws n = !((ws.take n).all sgOk))
  | 0, _ => by simp [wrTo]
  | n + 1, h => by
    rw [wrTo, wrTo_all ws n (by omega), wrW_sg]
    have e : ws.take (n + 1) = ws.take n ++ [ws.getD n []] := by
      rw [List.take_add_one]
      have : ws[n]? = some (ws.getD n []) := by rw [List.getD_eq_getElem?_getD, List.getElem?_eq_getElem (by omega)]; rfl
      rw [this]; rfl
    rw [e, List.all_append, Bool.not_and]
    simp
theorem wrTo_eq (ws : List Str) : wrTo ws ws.length = !(ws.all sgOk) := by
  rw [wrTo_all ws _ (Nat.le_refl _), List.take_length]
def rdOk (line word : Str) : Bool := decide ((sB 32 line).headD [] = word) && ((sB 32 line).drop 1).all sgOk
def rdV (line : Str) : List Int := ((sB 32 line).drop 1).map sgV
def hdW (g : Nat) : Str := List.getD [[108, 117, 109, 97], [117], [118]] g []
theorem getD_headD (l : List Str) : List.getD l 0 [] = l.headD [] := by cases l <;> rfl
def lnsN (s : Str) : Nat := (sB 10 s).length - 1
def lnAt (s : Str) (g : Nat) : Str := List.getD (sB 10 s) g []
theorem drop_rest (s : Str) : ∀ g, g ≤ lnsN s → List.drop g (sB 10 s) = sB 10 (restTo s g)
  | 0, _ => rfl
  | g + 1, h => by
    have ih := drop_rest s g (by omega)
    have hl : 2 ≤ (List.drop g (sB 10 s)).length := by unfold lnsN at h; rw [List.length_drop]; omega
    have hd : List.drop (g + 1) (sB 10 s) = (List.drop g (sB 10 s)).tail := by rw [List.tail_drop]
    rw [hd, ih]
    rw [ih] at hl
    rcases line_cases (restTo s g) with ⟨_, _, _, _, h5, _⟩ | ⟨i, _, _, _, _, h5, _⟩
    · rw [h5] at hl; simp at hl
    · rw [h5]; rfl
theorem ln_head (s : Str) (g : Nat) (h : g ≤ lnsN s) : lnAt s g = (sB 10 (restTo s g)).headD [] := by
  rw [← drop_rest s g h]
  unfold lnAt
  rw [List.getD_eq_getElem?_getD, List.headD_eq_head?_getD, List.head?_drop]
theorem ln_in (s : Str) (g : Nat) (h : g < lnsN s) : restTo s g ≠ [] ∧ lineOf (restTo s g) = lnAt s g ++ [10] ∧ hsf (lineOf (restTo s g)) [10] = true ∧ tsf (lineOf (restTo s g)) [10] = lnAt s g := by
  have hl : 2 ≤ (List.drop g (sB 10 s)).length := by unfold lnsN at h; rw [List.length_drop]; omega
  rw [drop_rest s g (by omega)] at hl
  have hh := ln_head s g (by omega)
  rcases line_cases (restTo s g) with ⟨_, _, _, _, h5, _⟩ | ⟨i, h1, h2, h3, _, h5, h6, h7⟩
  · rw [h5] at hl; simp at hl
  · rw [h5] at hh
    simp only [List.headD_cons] at hh
    refine ⟨fun e => by rw [e] at h2; simp at h2, by rw [h3, hh], h6, by rw [h7, hh]⟩
theorem ln_last (s : Str) : restTo s (lnsN s) = lnAt s (lnsN s) ∧ hsf (lineOf (restTo s (lnsN s))) [10] = false := by
  have hl : (List.drop (lnsN s) (sB 10 s)).length = 1 := by
    have := (sB_len 10 s).1
    unfold lnsN; rw [List.length_drop]; omega
  rw [drop_rest s _ (Nat.le_refl _)] at hl
  have hh := ln_head s _ (Nat.le_refl _)
  rcases line_cases (restTo s (lnsN s)) with ⟨_, _, h3, _, h5, h6⟩ | ⟨i, _, _, _, _, h5, _⟩
  · rw [h5] at hh
    exact ⟨hh.symm, by rw [h3]; exact h6⟩
  · have := (sB_len 10 (restOf (restTo s (lnsN s)))).1
    rw [h5, List.length_cons] at hl; omega
theorem headW_hdW {g : Nat} (h : g < 3) : headW g = hdW g := by
  match g, h with
  | 0, _ => rfl
  | 1, _ => rfl
  | 2, _ => rfl
theorem good_in (s : Str) (g : Nat) (h : g < lnsN s) : goodAt s g = (decide (g < 3) && rdOk (lnAt s g) (hdW g)) := by
  obtain ⟨h1, h2, h3, h4⟩ := ln_in s g h
  by_cases hg : g < 3
  · have e1 : goodAt s g = (hsf (lineOf (restTo s g)) [10] && decide (g < 3) && decide (List.getD (wdsAt s g) 0 [] = headW g) && !wrTo (tlAt s g) (tlAt s g).length) := rfl
    have e2 : wdsAt s g = sB 32 (lnAt s g) := by unfold wdsAt; rw [h4, spl_sB]
    rw [e1, h3, wrTo_eq, headW_hdW hg]
    unfold tlAt
    rw [e2, getD_headD]
    unfold rdOk
    simp [hg]
  · have e1 : goodAt s g = (hsf (lineOf (restTo s g)) [10] && decide (g < 3) && decide (List.getD (wdsAt s g) 0 [] = headW g) && !wrTo (tlAt s g) (tlAt s g).length) := rfl
    rw [e1, decide_eq_false hg]; simp
theorem nums_in (s : Str) (g : Nat) (h : g < lnsN s) (hr : rdOk (lnAt s g) (hdW g) = true) : numsAt s g = rdV (lnAt s g) := by
  obtain ⟨h1, h2, h3, h4⟩ := ln_in s g h
  have e2 : wdsAt s g = sB 32 (lnAt s g) := by unfold wdsAt; rw [h4, spl_sB]
  unfold numsAt tlAt rdV
  rw [e2]
  unfold rdOk at hr
  rw [Bool.and_eq_true] at hr
  exact List.map_congr_left fun w hw => atV_sg w (List.all_eq_true.1 hr.2 w hw)
theorem preA_le (s : Str) (k : Nat) (h : preA s k) : k ≤ 3 := by
  apply Nat.le_of_not_lt
  intro h3
  have := (h 3 h3).2
  have e1 : goodAt s 3 = (hsf (lineOf (restTo s 3)) [10] && decide (3 < 3) && decide (List.getD (wdsAt s 3) 0 [] = headW 3) && !wrTo (tlAt s 3) (tlAt s 3).length) := rfl
  rw [e1] at this
  simp at this
theorem preA_zero (s : Str) : preA s 0 := fun i hi => absurd hi (Nat.not_lt_zero _)
theorem preA_succ {s : Str} {k : Nat} (h : preA s k) (h1 : restTo s k ≠ []) (h2 : goodAt s k = true) : preA s (k + 1) := fun i hi => by
  rcases Nat.lt_succ_iff_lt_or_eq.1 hi with h3 | h3
  · exact h i h3
  · subst h3; exact ⟨h1, h2⟩
theorem prs_to (s : Str) (hs : s.length ≤ 4096) : ∀ k, preA s k → prsN s = prsG s (4 - k) k
  | 0, _ => by unfold prsN; rw [if_neg (by omega)]
  | k + 1, h => by
    have hk := preA_le s (k + 1) h
    have h1 := h k (Nat.lt_succ_self k)
    rw [prs_to s hs k (fun i hi => h i (Nat.lt_succ_of_lt hi))]
    have e : 4 - k = (4 - (k + 1)) + 1 := by omega
    rw [e, prsG, if_neg h1.1, if_pos h1.2]
theorem prs_end {s : Str} (hs : s.length ≤ 4096) {k : Nat} (h : preA s k) (hr : restTo s k = []) : prsN s = finP s k := by
  have hk := preA_le s k h
  rw [prs_to s hs k h]
  have e : 4 - k = (3 - k) + 1 := by omega
  rw [e, prsG, if_pos hr]
theorem prs_bad {s : Str} (hs : s.length ≤ 4096) {k : Nat} (h : preA s k) (hr : restTo s k ≠ []) (hg : goodAt s k ≠ true) : prsN s = badP k := by
  have hk := preA_le s k h
  rw [prs_to s hs k h]
  have e : 4 - k = (3 - k) + 1 := by omega
  rw [e, prsG, if_neg hr, if_neg hg]
theorem prs_long {s : Str} (hs : 4096 < s.length) : prsN s = (([], [], []), 0, 26) := by unfold prsN; rw [if_pos hs]
def preR (s : Str) (g : Nat) : Prop := ∀ i, i < g → i < 3 ∧ rdOk (lnAt s i) (hdW i) = true
theorem preR_A {s : Str} {g : Nat} (h : preR s g) (hg : g ≤ lnsN s) : preA s g := fun i hi => by
  have := h i hi
  refine ⟨(ln_in s i (by omega)).1, ?_⟩
  rw [good_in s i (by omega), this.2, decide_eq_true this.1]; rfl
theorem ref_bad {s : Str} (hs : s.length ≤ 4096) {g : Nat} (h : preR s g) (hg : g < lnsN s) (hb : ¬ (g < 3 ∧ rdOk (lnAt s g) (hdW g) = true)) : prsN s = badP g := by
  refine prs_bad hs (preR_A h (by omega)) (ln_in s g hg).1 fun e => hb ?_
  rw [good_in s g hg, Bool.and_eq_true] at e
  exact ⟨of_decide_eq_true e.1, e.2⟩
theorem ref_open {s : Str} (hs : s.length ≤ 4096) (h : preR s (lnsN s)) (hb : lnAt s (lnsN s) ≠ []) : prsN s = badP (lnsN s) := by
  obtain ⟨h1, h2⟩ := ln_last s
  refine prs_bad hs (preR_A h (Nat.le_refl _)) (by rw [h1]; exact hb) fun e => ?_
  have e1 : goodAt s (lnsN s) = (hsf (lineOf (restTo s (lnsN s))) [10] && decide (lnsN s < 3) && decide (List.getD (wdsAt s (lnsN s)) 0 [] = headW (lnsN s)) && !wrTo (tlAt s (lnsN s)) (tlAt s (lnsN s)).length) := rfl
  rw [e1, h2] at e
  simp at e
theorem ref_end {s : Str} (hs : s.length ≤ 4096) (h : preR s (lnsN s)) (hb : lnAt s (lnsN s) = []) : prsN s = finP s (lnsN s) := by
  obtain ⟨h1, h2⟩ := ln_last s
  exact prs_end hs (preR_A h (Nat.le_refl _)) (by rw [h1]; exact hb)
theorem ref_nums {s : Str} {g : Nat} (h : preR s g) (hg : g ≤ lnsN s) {i : Nat} (hi : i < g) : numsAt s i = rdV (lnAt s i) :=
  nums_in s i (by omega) (h i hi).2
theorem fin_few {s : Str} {g : Nat} (h : g < 3) : finP s g = (([], [], []), (g : Int), 2) := by
  have e : endE s g = 2 := by
    unfold endE
    rw [show whenE (decide ((g : Int) < 3)) 2 = 2 from by rw [decide_eq_true (by omega)]; rfl]
    rfl
  unfold finP
  rw [e, if_pos (by omega)]
theorem end_three (s : Str) : endE s 3 = if (numsAt s 0).any lgI || ((numsAt s 1).any lgI || (numsAt s 2).any lgI) then 3 else 0 := by
  unfold endE
  rw [anyL_flt]
  have e : (listsTo s 3).any (fun x => x.any lgI) = ((numsAt s 0).any lgI || ((numsAt s 1).any lgI || (numsAt s 2).any lgI)) := by
    unfold listsTo tab
    simp [List.range_succ]
  rw [e]
  cases ((numsAt s 0).any lgI || ((numsAt s 1).any lgI || (numsAt s 2).any lgI)) <;> rfl
theorem good_three (s : Str) : goodAt s 3 ≠ true := fun e => by
  have e1 : goodAt s 3 = (hsf (lineOf (restTo s 3)) [10] && decide (3 < 3) && decide (List.getD (wdsAt s 3) 0 [] = headW 3) && !wrTo (tlAt s 3) (tlAt s 3).length) := rfl
  rw [e1] at e
  simp at e
theorem atV_fits (w : Str) : fits .i64 (atV w) := by
  have hV : atV w = atoV w := by unfold atV; rw [hd_eq]
  rw [hV]
  unfold atoV
  split
  · rename_i h; exact Lib.atoiAll_bounds h
  · exact Lib.atoiSat_bounds w
  · simp only [fits]; omega
theorem take_snoc {ws : List Str} {g : Nat} (h : g < ws.length) : List.take (g + 1) ws = List.take g ws ++ [List.getD ws g []] := by
  rw [List.take_add_one]
  have : ws[g]? = some (ws.getD g []) := by rw [List.getD_eq_getElem?_getD, List.getElem?_eq_getElem h]; rfl
  rw [this]; rfl
theorem first_two (b : Int) (l : List Int) : first (whenE true 2 :: b :: l) = 2 := rfl
theorem end_bd {s : Str} (h : endE s 3 = 0) : Bd 16384 (numsAt s 0) ∧ Bd 16384 (numsAt s 1) ∧ Bd 16384 (numsAt s 2) := by
  have key : ∀ l : List Int, l.any lgI = false → Bd 16384 l := fun l h n hn => by
    have := List.any_eq_false.1 h n hn
    unfold lgI at this
    simp at this; omega
  rw [end_three] at h
  split at h
  · cases h
  · rename_i hl
    simp only [Bool.or_eq_true, not_or, Bool.not_eq_true] at hl
    exact ⟨key _ hl.1, key _ hl.2.1, key _ hl.2.2⟩
end Go.Sx.U

namespace Go.Sx.U
open Go.Sx
theorem join_two (a b : Str) (r : List Str) (sep : Str) : Lib.join (a :: b :: r) sep = a ++ sep ++ Lib.join (b :: r) sep := by
  rw [Lib.join_cons, Lib.join_cons]
  simp [Lib.joinTail]
theorem sB_join (c : UInt8) : ∀ (ws : List Str), ws ≠ [] → (∀ w ∈ ws, c ∉ w) → sB c (Lib.join ws [c]) = ws
  | [], h, _ => absurd rfl h
  | [a], _, h => by rw [Lib.join_one]; exact sB_none c a (h a (by simp))
  | a :: b :: r, _, h => by
    rw [join_two, List.append_assoc, List.singleton_append, sB_app c a _ (h a (by simp)), sB_join c (b :: r) (by simp) (fun w hw => h w (by simp [hw]))]
theorem join_sB (c : UInt8) : ∀ s : Str, Lib.join (sB c s) [c] = s
  | [] => by simp [sB, Lib.join_one]
  | x :: t => by
    have ih := join_sB c t
    have hne := sB_ne c t
    rw [sB]
    split
    · rename_i hx
      subst hx
      cases e : sB x t with
      | nil => exact absurd e hne
      | cons a r => rw [join_two, ← e, ih]; simp
    · cases e : sB c t with
      | nil => exact absurd e hne
      | cons a r =>
        rw [e] at ih
        simp only [List.headD_cons, List.tail_cons]
        rw [Lib.join_cons] at ih ⊢
        rw [← ih]; simp
theorem itoa_byte (n : Int) (b : UInt8) (h : b ∈ Lib.itoa n) : b = 45 ∨ dgB b = true := by
  unfold Lib.itoa at h
  split at h
  · rcases List.mem_cons.1 h with h | h
    · exact .inl h
    · exact .inr (List.all_eq_true.1 (decDigits_all _).1.2.1 b h)
  · exact .inr (List.all_eq_true.1 (decDigits_all _).1.2.1 b h)
theorem itoa_free (n : Int) (c : UInt8) (hc : c = 32 ∨ c = 10) : c ∉ Lib.itoa n := fun h => by
  rcases itoa_byte n c h with h | h <;> rcases hc with rfl | rfl <;> revert h <;> decide
def bodyW (w : Str) (l : List Nat) : Str := Lib.join (w :: (sixs l).map Lib.itoa) [32]
theorem lineW_body (w : Str) (l : List Nat) : lineW w l = bodyW w l ++ [10] := rfl
theorem mem_join {c : UInt8} : ∀ (ws : List Str), c ∈ Lib.join ws [32] → c = 32 ∨ ∃ w ∈ ws, c ∈ w
  | [], h => by rw [Lib.join_nil] at h; cases h
  | [a], h => by rw [Lib.join_one] at h; exact .inr ⟨a, by simp, h⟩
  | a :: b :: r, h => by
    rw [join_two] at h
    simp only [List.mem_append, List.mem_singleton] at h
    rcases h with (h | h) | h
    · exact .inr ⟨a, by simp, h⟩
    · exact .inl h
    · rcases mem_join (b :: r) h with h | ⟨w, h1, h2⟩
      · exact .inl h
      · exact .inr ⟨w, List.mem_cons_of_mem _ h1, h2⟩
theorem hdW_free (g : Nat) (c : UInt8) (hc : c = 32 ∨ c = 10) : c ∉ hdW g := by
  match g with
  | 0 => rcases hc with rfl | rfl <;> decide
  | 1 => rcases hc with rfl | rfl <;> decide
  | 2 => rcases hc with rfl | rfl <;> decide
  | g + 3 => unfold hdW; simp
theorem body_free (g : Nat) (l : List Nat) : (10 : UInt8) ∉ bodyW (hdW g) l := fun h => by
  rcases mem_join _ h with h | ⟨w, h1, h2⟩
  · revert h; decide
  · rcases List.mem_cons.1 h1 with h1 | h1
    · subst h1; exact hdW_free g 10 (.inr rfl) h2
    · obtain ⟨n, _, rfl⟩ := List.mem_map.1 h1
      exact itoa_free n 10 (.inr rfl) h2
theorem body_words (g : Nat) (l : List Nat) : sB 32 (bodyW (hdW g) l) = hdW g :: (sixs l).map Lib.itoa := by
  refine sB_join 32 _ (by simp) fun w hw => ?_
  rcases List.mem_cons.1 hw with h1 | h1
  · subst h1; exact hdW_free g 32 (.inl rfl)
  · obtain ⟨n, _, rfl⟩ := List.mem_map.1 h1
    exact itoa_free n 32 (.inl rfl)
theorem body_ne {g : Nat} (hg : g < 3) (l : List Nat) : bodyW (hdW g) l ≠ [] := by
  unfold bodyW
  rw [Lib.join_cons]
  match g, hg with
  | 0, _ => simp [hdW]
  | 1, _ => simp [hdW]
  | 2, _ => simp [hdW]
theorem six_small {l : List Nat} (h : OkS l) {n : Int} (hn : n ∈ sixs l) : n.natAbs < 10 ^ 9 := by
  have := bd_sixs h n hn
  omega
theorem body_ok (g : Nat) {l : List Nat} (h : OkS l) : rdOk (bodyW (hdW g) l) (hdW g) = true ∧ rdV (bodyW (hdW g) l) = sixs l := by
  unfold rdOk rdV
  rw [body_words]
  refine ⟨?_, ?_⟩
  · rw [Bool.and_eq_true]
    refine ⟨by simp, List.all_eq_true.2 fun w hw => ?_⟩
    simp only [List.drop_succ_cons, List.drop_zero] at hw
    obtain ⟨n, hn, rfl⟩ := List.mem_map.1 hw
    exact (sg_itoa n (six_small h hn)).1
  · simp only [List.drop_succ_cons, List.drop_zero, List.map_map]
    conv => rhs; rw [← List.map_id (sixs l)]
    exact List.map_congr_left fun n hn => (sg_itoa n (six_small h hn)).2
theorem prt_bodies (y u v : List Nat) : prtN y u v = bodyW (hdW 0) y ++ 10 :: (bodyW (hdW 1) u ++ 10 :: (bodyW (hdW 2) v ++ [10])) := by
  unfold prtN
  rw [lineW_body, lineW_body, lineW_body]
  simp [hdW]
theorem prt_lines (y u v : List Nat) : sB 10 (prtN y u v) = [bodyW (hdW 0) y, bodyW (hdW 1) u, bodyW (hdW 2) v, []] := by
  rw [prt_bodies, sB_app 10 _ _ (body_free 0 y), sB_app 10 _ _ (body_free 1 u), sB_app 10 _ _ (body_free 2 v)]
  rfl
theorem fin_three (s : Str) : finP s 3 = if ((numsAt s 0).any lgI || ((numsAt s 1).any lgI || (numsAt s 2).any lgI)) = true then (([], [], []), 3, 3)
    else if chkPt (sixL s 0) (sixL s 1) (sixL s 2) ≠ 0 then (([], [], []), 3, chkPt (sixL s 0) (sixL s 1) (sixL s 2))
    else ((sixL s 0, sixL s 1, sixL s 2), 0, 0) := by
  unfold finP
  rw [end_three]
  cases ((numsAt s 0).any lgI || ((numsAt s 1).any lgI || (numsAt s 2).any lgI)) <;> rfl
theorem bd_lg {l : List Int} (h : Bd 16384 l) : l.any lgI = false := by
  rw [List.any_eq_false]
  intro n hn
  have := h n hn
  unfold lgI
  simp; omega
theorem lg_bd {l : List Int} (h : l.any lgI = false) : Bd 16384 l := fun n hn => by
  have := List.any_eq_false.1 h n hn
  unfold lgI at this
  simp at this; omega
theorem chkPt_six {y u v : List Nat} (h : chkPt y u v = 0) : chkPt ((sixs y).map smp) ((sixs u).map smp) ((sixs v).map smp) = 0 := by
  have ok : ∀ l, OkS l → OkS ((sixs l).map smp) := fun l h b hb => by
    obtain ⟨n, hn, rfl⟩ := List.mem_map.1 hb
    have := bd_sixs h n hn
    exact chk_smp this.1 this.2
  obtain ⟨h1, h2, h3, h4, h5⟩ := chkPt_zero.1 h
  obtain ⟨k1, k2, k3⟩ := chkSig_zero.1 h1
  refine chkPt_zero.2 ⟨chkSig_zero.2 ⟨?_, ?_, ok y k3⟩, ?_, ?_, ok u h4, ok v h5⟩ <;> simp only [List.length_map, sixs] <;> assumption
theorem prt_len_pos (y u v : List Nat) : 0 < (prtN y u v).length := by
  rw [prt_bodies]; simp; omega
theorem prs_prt {y u v : List Nat} (h : chkPt y u v = 0) (hl : (prtN y u v).length ≤ 4096) :
    prsN (prtN y u v) = (((sixs y).map smp, (sixs u).map smp, (sixs v).map smp), 0, 0) := by
  obtain ⟨h1, h2, h3, h4, h5⟩ := chkPt_zero.1 h
  obtain ⟨k1, k2, k3⟩ := chkSig_zero.1 h1
  have hL := prt_lines y u v
  have hn : lnsN (prtN y u v) = 3 := by unfold lnsN; rw [hL]; rfl
  have e0 : lnAt (prtN y u v) 0 = bodyW (hdW 0) y := by unfold lnAt; rw [hL]; rfl
  have e1 : lnAt (prtN y u v) 1 = bodyW (hdW 1) u := by unfold lnAt; rw [hL]; rfl
  have e2 : lnAt (prtN y u v) 2 = bodyW (hdW 2) v := by unfold lnAt; rw [hL]; rfl
  have e3 : lnAt (prtN y u v) 3 = [] := by unfold lnAt; rw [hL]; rfl
  have hp : preR (prtN y u v) 3 := fun i hi => by
    refine ⟨hi, ?_⟩
    match i, hi with
    | 0, _ => rw [e0]; exact (body_ok 0 k3).1
    | 1, _ => rw [e1]; exact (body_ok 1 h4).1
    | 2, _ => rw [e2]; exact (body_ok 2 h5).1
  have n0 : numsAt (prtN y u v) 0 = sixs y := by rw [ref_nums hp (by omega) (i := 0) (by omega), e0]; exact (body_ok 0 k3).2
  have n1 : numsAt (prtN y u v) 1 = sixs u := by rw [ref_nums hp (by omega) (i := 1) (by omega), e1]; exact (body_ok 1 h4).2
  have n2 : numsAt (prtN y u v) 2 = sixs v := by rw [ref_nums hp (by omega) (i := 2) (by omega), e2]; exact (body_ok 2 h5).2
  rw [ref_end hl (by rw [hn]; exact hp) (by rw [hn]; exact e3), hn, fin_three]
  unfold sixL
  rw [n0, n1, n2, bd_lg (bd_sixs k3), bd_lg (bd_sixs h4), bd_lg (bd_sixs h5), chkPt_six h]
  rfl
theorem prs_cut {y u v : List Nat} (h : chkPt y u v = 0) (hl : (prtN y u v).length ≤ 4096) :
    prsN (List.take ((prtN y u v).length - 1) (prtN y u v)) = (([], [], []), 2, 25) := by
  obtain ⟨h1, h2, h3, h4, h5⟩ := chkPt_zero.1 h
  obtain ⟨k1, k2, k3⟩ := chkSig_zero.1 h1
  have ht : List.take ((prtN y u v).length - 1) (prtN y u v) = bodyW (hdW 0) y ++ 10 :: (bodyW (hdW 1) u ++ 10 :: bodyW (hdW 2) v) := by
    have e : prtN y u v = (bodyW (hdW 0) y ++ 10 :: (bodyW (hdW 1) u ++ 10 :: bodyW (hdW 2) v)) ++ [10] := by rw [prt_bodies]; simp
    have key : ∀ q : Str, List.take ((q ++ [10]).length - 1) (q ++ [10]) = q := fun q => by simp
    rw [e, key]
  have hlt : (List.take ((prtN y u v).length - 1) (prtN y u v)).length ≤ 4096 := by rw [List.length_take]; omega
  generalize List.take ((prtN y u v).length - 1) (prtN y u v) = t at ht hlt
  have hL : sB 10 t = [bodyW (hdW 0) y, bodyW (hdW 1) u, bodyW (hdW 2) v] := by
    rw [ht, sB_app 10 _ _ (body_free 0 y), sB_app 10 _ _ (body_free 1 u), sB_none 10 _ (body_free 2 v)]
  have hn : lnsN t = 2 := by unfold lnsN; rw [hL]; rfl
  have e0 : lnAt t 0 = bodyW (hdW 0) y := by unfold lnAt; rw [hL]; rfl
  have e1 : lnAt t 1 = bodyW (hdW 1) u := by unfold lnAt; rw [hL]; rfl
  have e2 : lnAt t 2 = bodyW (hdW 2) v := by unfold lnAt; rw [hL]; rfl
  have hp : preR t 2 := fun i hi => by
    refine ⟨by omega, ?_⟩
    match i, hi with
    | 0, _ => rw [e0]; exact (body_ok 0 k3).1
    | 1, _ => rw [e1]; exact (body_ok 1 h4).1
  rw [ref_open hlt (by rw [hn]; exact hp) (by rw [hn, e2]; exact body_ne (by omega) v), hn]
  rfl
theorem line_again {s : Str} {g : Nat} (hg : g < lnsN s) (hr : rdOk (lnAt s g) (hdW g) = true) (hb : (numsAt s g).any lgI = false) :
    bodyW (hdW g) (sixL s g) = lnAt s g := by
  have hn := nums_in s g hg hr
  unfold bodyW sixL
  rw [six_smps (lg_bd hb), hn]
  unfold rdOk at hr
  rw [Bool.and_eq_true, decide_eq_true_eq] at hr
  have e : hdW g :: (rdV (lnAt s g)).map Lib.itoa = sB 32 (lnAt s g) := by
    have hne := sB_ne 32 (lnAt s g)
    unfold rdV
    rw [List.map_map, ← hr.1]
    cases h : sB 32 (lnAt s g) with
    | nil => exact absurd h hne
    | cons a r =>
      rw [h] at hr
      simp only [List.headD_cons, List.drop_succ_cons, List.drop_zero] at hr ⊢
      congr 1
      conv => rhs; rw [← List.map_id r]
      exact List.map_congr_left fun w hw => ((sg_iff w).1 (List.all_eq_true.1 hr.2 w hw)).2.2
  rw [e, join_sB]
theorem prt_prs {s : Str} {y u v : List Nat} {i : Int} (h : prsN s = ((y, u, v), i, 0)) : chkPt y u v = 0 ∧ prtN y u v = s := by
  by_cases hs : 4096 < s.length
  · rw [prs_long hs] at h
    simp at h
  have hs : s.length ≤ 4096 := by omega
  by_cases hp : preR s (lnsN s)
  case neg =>
    exfalso
    have hg : ∃ g, g < lnsN s ∧ preR s g ∧ ¬ (g < 3 ∧ rdOk (lnAt s g) (hdW g) = true) := by
      have key : ∀ n, ¬ preR s n → ∃ g, g < n ∧ preR s g ∧ ¬ (g < 3 ∧ rdOk (lnAt s g) (hdW g) = true) := by
        intro n
        induction n with
        | zero => intro h; exact absurd (fun i hi => absurd hi (Nat.not_lt_zero _)) h
        | succ n ih =>
          intro h
          by_cases hn : preR s n
          · refine ⟨n, Nat.lt_succ_self n, hn, fun h2 => h fun i hi => ?_⟩
            rcases Nat.lt_succ_iff_lt_or_eq.1 hi with h3 | h3
            · exact hn i h3
            · subst h3; exact h2
          · obtain ⟨g, h1, h2⟩ := ih hn
            exact ⟨g, by omega, h2⟩
      exact key _ hp
    obtain ⟨g, h1, h2, h3⟩ := hg
    rw [ref_bad hs h2 h1 h3] at h
    simp [badP] at h
  by_cases hb : lnAt s (lnsN s) = []
  case neg =>
    rw [ref_open hs hp hb] at h
    simp [badP] at h
  rw [ref_end hs hp hb] at h
  by_cases h3 : lnsN s < 3
  · rw [fin_few h3] at h
    simp at h
  have hn : lnsN s = 3 := by
    have := preA_le s _ (preR_A hp (Nat.le_refl _))
    omega
  rw [hn] at h hp hb
  rw [fin_three] at h
  by_cases hl : ((numsAt s 0).any lgI || ((numsAt s 1).any lgI || (numsAt s 2).any lgI)) = true
  · rw [if_pos hl] at h
    simp at h
  · rw [if_neg hl] at h
    by_cases hc : chkPt (sixL s 0) (sixL s 1) (sixL s 2) ≠ 0
    · rw [if_pos hc] at h
      simp only [Prod.mk.injEq] at h
      exact absurd h.2.2 hc
    · rw [if_neg hc] at h
      simp only [Prod.mk.injEq] at h
      obtain ⟨⟨rfl, rfl, rfl⟩, _⟩ := h
      refine ⟨Decidable.not_not.1 hc, ?_⟩
      simp only [Bool.or_eq_true, not_or, Bool.not_eq_true] at hl
      rw [prt_bodies, line_again (by omega) (hp 0 (by omega)).2 hl.1, line_again (by omega) (hp 1 (by omega)).2 hl.2.1, line_again (by omega) (hp 2 (by omega)).2 hl.2.2]
      conv => rhs; rw [← join_sB 10 s]
      have hL : sB 10 s = [lnAt s 0, lnAt s 1, lnAt s 2, []] := by
        have h4 : (sB 10 s).length = 4 := by unfold lnsN at hn; omega
        unfold lnAt at hb ⊢
        match h : sB 10 s, h4 with
        | [a, b, c, d], _ =>
          rw [h] at hb
          simp at hb
          simp [hb]
      rw [hL, join_two, join_two, join_two, Lib.join_one]
      simp
theorem ok_again {l : List Nat} (h : OkS l) : OkS ((sixs l).map smp) ∧ sixs ((sixs l).map smp) = sixs l :=
  ⟨fun b hb => by
    obtain ⟨n, hn, rfl⟩ := List.mem_map.1 hb
    have := bd_sixs h n hn
    exact chk_smp this.1 this.2, six_smps (bd_sixs h)⟩
theorem same_again {y u v : List Nat} (h : chkPt y u v = 0) : sameP ((sixs y).map smp, (sixs u).map smp, (sixs v).map smp) (y, u, v) = true := by
  obtain ⟨h1, h2, h3, h4, h5⟩ := chkPt_zero.1 h
  obtain ⟨k1, k2, k3⟩ := chkSig_zero.1 h1
  unfold sameP
  rw [sameS_six (ok_again k3).1 k3, sameS_six (ok_again h4).1 h4, sameS_six (ok_again h5).1 h5, (ok_again k3).2, (ok_again h4).2, (ok_again h5).2]
  simp
theorem finP_form (s : Str) (g : Nat) : ((finP s g).2.2 ≠ 0 ∧ (finP s g).1 = ([], [], []) ∧ (finP s g).2.1 = g) ∨ ((finP s g).2.2 = 0 ∧ (finP s g).2.1 = 0 ∧ chkPt (finP s g).1.1 (finP s g).1.2.1 (finP s g).1.2.2 = 0) := by
  unfold finP
  split
  · rename_i h; exact .inl ⟨h, rfl, rfl⟩
  · split
    · rename_i h; exact .inl ⟨h, rfl, rfl⟩
    · rename_i h; exact .inr ⟨rfl, rfl, Decidable.not_not.1 h⟩
theorem prsG_form (s : Str) : ∀ n g, ((prsG s n g).2.2 ≠ 0 ∧ (prsG s n g).1 = ([], [], [])) ∨ ((prsG s n g).2.2 = 0 ∧ (prsG s n g).2.1 = 0 ∧ chkPt (prsG s n g).1.1 (prsG s n g).1.2.1 (prsG s n g).1.2.2 = 0)
  | 0, g => .inl ⟨by simp [prsG, badP], rfl⟩
  | n + 1, g => by
    unfold prsG
    split
    · rcases finP_form s g with h | h
      · exact .inl ⟨h.1, h.2.1⟩
      · exact .inr h
    · split
      · exact prsG_form s n (g + 1)
      · exact .inl ⟨by simp [badP], rfl⟩
theorem prs_form (s : Str) : ((prsN s).2.2 ≠ 0 ∧ (prsN s).1 = ([], [], [])) ∨ ((prsN s).2.2 = 0 ∧ (prsN s).2.1 = 0 ∧ chkPt (prsN s).1.1 (prsN s).1.2.1 (prsN s).1.2.2 = 0) := by
  unfold prsN
  split
  · exact .inl ⟨by simp, rfl⟩
  · exact prsG_form s 4 0
theorem prs_lens (s : Str) : (prsN s).1.1.length ≤ 256 ∧ (prsN s).1.2.1.length ≤ 256 ∧ (prsN s).1.2.2.length ≤ 256 := by
  rcases prs_form s with ⟨_, h⟩ | ⟨_, _, h⟩
  · rw [h]; simp
  · obtain ⟨h1, h2, h3, h4, h5⟩ := chkPt_zero.1 h
    obtain ⟨k1, k2, k3⟩ := chkSig_zero.1 h1
    omega
end Go.Sx.U
