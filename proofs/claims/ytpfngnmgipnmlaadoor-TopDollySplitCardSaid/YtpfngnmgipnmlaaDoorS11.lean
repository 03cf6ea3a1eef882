/- A verified symbolic run of functions, part 11: lemmas, no claim of their own. -/
import Derived.Test.YtpfngnmgipnmlaaDoorS10
/- What the engine asks, written out (printed by a program). -/
namespace Go.Sx
open U
theorem vc21 (nm : List UInt8) (f : Int) (l : List Int) : exF (env false [(71, sp71), (73, sp73), (74, sp74)] [fb72]) h21 3 21 Proofs.Tryd.f21 [rV nm f l] (.tup [.one (.frs (.int .u8) (stream nm f l)), iV 0]) = (List.length l ≤ (1000000 : Nat) ∧ splitB (checkReel nm f l != (0 : Int)) (stream nm f l = [] ∧ checkReel nm f l = (0 : Int) ∧ True) (((0 : Int) ≤ (0 : Int) ∧ (0 : Int) ≤ (4 : Int) ∧ (4 : Int) ≤ (4 : Int)) ∧ ∀ (b : Bool), (b = true → (4 : Nat) = (0 : Nat)) → splitB (b != false) (room (1 : Nat) (1 : Nat) ∧ room ((1 : Nat) + List.length nm) (1 : Nat) ∧ ((0 : Int) ≤ (24 : Int) ∧ (24 : Nat) ≤ IntKind.bits IntKind.i64) ∧ ((0 : Int) ≤ (16 : Int) ∧ (16 : Nat) ≤ IntKind.bits IntKind.i64) ∧ ((0 : Int) ≤ (8 : Int) ∧ (8 : Nat) ≤ IntKind.bits IntKind.i64) ∧ room (List.length ([(↑(List.length nm) : Int) % (256 : Int)] ++ strNs nm) + (4 : Nat)) (1 : Nat) ∧ (∃ (g : Nat), Nat.le g (List.length l) ∧ (0 : Int) = (↑g : Int) ∧ (↑(List.length l) : Int) = (↑(List.length l) : Int) ∧ l = l ∧ [(↑(List.length nm) : Int) % (256 : Int)] ++ strNs nm ++ [f / (16777216 : Int) % (256 : Int), f / (65536 : Int) % (256 : Int), f / (256 : Int) % (256 : Int), f % (256 : Int)] = [(↑(List.length nm) : Int) % (256 : Int)] ++ strNs nm ++ [f / (16777216 : Int) % (256 : Int), f / (65536 : Int) % (256 : Int), f / (256 : Int) % (256 : Int), f % (256 : Int)] ++ recs l g ∧ [f / (16777216 : Int) % (256 : Int), f / (65536 : Int) % (256 : Int), f / (256 : Int) % (256 : Int), f % (256 : Int)] = [f / (16777216 : Int) % (256 : Int), f / (65536 : Int) % (256 : Int), f / (256 : Int) % (256 : Int), f % (256 : Int)] ∧ [(↑(List.length nm) : Int) % (256 : Int)] = [(↑(List.length nm) : Int) % (256 : Int)] ∧ nm = nm ∧ f = f ∧ l = l ∧ True) ∧ ∀ (g : Nat), Nat.le g (List.length l) → splitB (decide ((↑g : Int) < (↑(List.length l) : Int))) (((0 : Int) ≤ (↑g : Int) ∧ (↑g : Int) < (↑(List.length l) : Int)) ∧ (((0 : Int) ≤ (↑g : Int) ∧ (↑g : Int) ≤ (1000000 : Int)) ∧ (0 : Int) ≤ List.getD l g (0 : Int) ∧ List.getD l g (0 : Int) ≤ (1000000 : Int)) ∧ ((0 : Int) ≤ (0 : Int) ∧ (0 : Int) ≤ (5 : Int) ∧ (5 : Int) ≤ (5 : Int)) ∧ List.length (List.take (5 : Nat) (tframe (↑g : Int) (List.getD l g (0 : Int)))) = (5 : Nat) ∧ room (List.length ([(↑(List.length nm) : Int) % (256 : Int)] ++ strNs nm ++ [f / (16777216 : Int) % (256 : Int), f / (65536 : Int) % (256 : Int), f / (256 : Int) % (256 : Int), f % (256 : Int)] ++ recs l g) + List.length (List.take (5 : Nat) (tframe (↑g : Int) (List.getD l g (0 : Int))))) (1 : Nat) ∧ fits IntKind.i64 ((↑g : Int) + (1 : Int)) ∧ ∃ (g' : Nat), Nat.le g' (List.length l) ∧ List.length l - g' < List.length l - g ∧ (↑g : Int) + (1 : Int) = (↑g' : Int) ∧ (↑(List.length l) : Int) = (↑(List.length l) : Int) ∧ l = l ∧ [(↑(List.length nm) : Int) % (256 : Int)] ++ strNs nm ++ [f / (16777216 : Int) % (256 : Int), f / (65536 : Int) % (256 : Int), f / (256 : Int) % (256 : Int), f % (256 : Int)] ++ recs l g ++ List.take (5 : Nat) (tframe (↑g : Int) (List.getD l g (0 : Int))) = [(↑(List.length nm) : Int) % (256 : Int)] ++ strNs nm ++ [f / (16777216 : Int) % (256 : Int), f / (65536 : Int) % (256 : Int), f / (256 : Int) % (256 : Int), f % (256 : Int)] ++ recs l g' ∧ [f / (16777216 : Int) % (256 : Int), f / (65536 : Int) % (256 : Int), f / (256 : Int) % (256 : Int), f % (256 : Int)] = [f / (16777216 : Int) % (256 : Int), f / (65536 : Int) % (256 : Int), f / (256 : Int) % (256 : Int), f % (256 : Int)] ∧ [(↑(List.length nm) : Int) % (256 : Int)] = [(↑(List.length nm) : Int) % (256 : Int)] ∧ nm = nm ∧ f = f ∧ l = l ∧ True) ((List.length l ≤ (1000000 : Nat) ∧ ∀ (x : Int), x ∈ l → (0 : Int) ≤ x ∧ x ≤ (65535 : Int)) ∧ ((0 : Int) ≤ (0 : Int) ∧ (0 : Int) ≤ (5 : Int) ∧ (5 : Int) ≤ (5 : Int)) ∧ List.length (List.take (5 : Nat) (tlast l)) = (5 : Nat) ∧ room (List.length ([(↑(List.length nm) : Int) % (256 : Int)] ++ strNs nm ++ [f / (16777216 : Int) % (256 : Int), f / (65536 : Int) % (256 : Int), f / (256 : Int) % (256 : Int), f % (256 : Int)] ++ recs l g) + List.length (List.take (5 : Nat) (tlast l))) (1 : Nat) ∧ [(↑(List.length nm) : Int) % (256 : Int)] ++ strNs nm ++ [f / (16777216 : Int) % (256 : Int), f / (65536 : Int) % (256 : Int), f / (256 : Int) % (256 : Int), f % (256 : Int)] ++ recs l g ++ List.take (5 : Nat) (tlast l) = stream nm f l ∧ (0 : Int) = (0 : Int) ∧ True)) (room (4 : Nat) (1 : Nat) ∧ room (5 : Nat) (1 : Nat) ∧ room (List.length ([(82 : Int), (69 : Int), (69 : Int), (76 : Int)] ++ [(↑(List.length nm) : Int) % (256 : Int)]) + List.length nm) (1 : Nat) ∧ ((0 : Int) ≤ (24 : Int) ∧ (24 : Nat) ≤ IntKind.bits IntKind.i64) ∧ ((0 : Int) ≤ (16 : Int) ∧ (16 : Nat) ≤ IntKind.bits IntKind.i64) ∧ ((0 : Int) ≤ (8 : Int) ∧ (8 : Nat) ≤ IntKind.bits IntKind.i64) ∧ room (List.length ([(82 : Int), (69 : Int), (69 : Int), (76 : Int)] ++ [(↑(List.length nm) : Int) % (256 : Int)] ++ strNs nm) + (4 : Nat)) (1 : Nat) ∧ (∃ (g : Nat), Nat.le g (List.length l) ∧ (0 : Int) = (↑g : Int) ∧ (↑(List.length l) : Int) = (↑(List.length l) : Int) ∧ l = l ∧ [(82 : Int), (69 : Int), (69 : Int), (76 : Int)] ++ [(↑(List.length nm) : Int) % (256 : Int)] ++ strNs nm ++ [f / (16777216 : Int) % (256 : Int), f / (65536 : Int) % (256 : Int), f / (256 : Int) % (256 : Int), f % (256 : Int)] = [(82 : Int), (69 : Int), (69 : Int), (76 : Int)] ++ [(↑(List.length nm) : Int) % (256 : Int)] ++ strNs nm ++ [f / (16777216 : Int) % (256 : Int), f / (65536 : Int) % (256 : Int), f / (256 : Int) % (256 : Int), f % (256 : Int)] ++ recs l g ∧ [f / (16777216 : Int) % (256 : Int), f / (65536 : Int) % (256 : Int), f / (256 : Int) % (256 : Int), f % (256 : Int)] = [f / (16777216 : Int) % (256 : Int), f / (65536 : Int) % (256 : Int), f / (256 : Int) % (256 : Int), f % (256 : Int)] ∧ [(↑(List.length nm) : Int) % (256 : Int)] = [(↑(List.length nm) : Int) % (256 : Int)] ∧ nm = nm ∧ f = f ∧ l = l ∧ True) ∧ ∀ (g : Nat), Nat.le g (List.length l) → splitB (decide ((↑g : Int) < (↑(List.length l) : Int))) (((0 : Int) ≤ (↑g : Int) ∧ (↑g : Int) < (↑(List.length l) : Int)) ∧ (((0 : Int) ≤ (↑g : Int) ∧ (↑g : Int) ≤ (1000000 : Int)) ∧ (0 : Int) ≤ List.getD l g (0 : Int) ∧ List.getD l g (0 : Int) ≤ (1000000 : Int)) ∧ ((0 : Int) ≤ (0 : Int) ∧ (0 : Int) ≤ (5 : Int) ∧ (5 : Int) ≤ (5 : Int)) ∧ List.length (List.take (5 : Nat) (tframe (↑g : Int) (List.getD l g (0 : Int)))) = (5 : Nat) ∧ room (List.length ([(82 : Int), (69 : Int), (69 : Int), (76 : Int)] ++ [(↑(List.length nm) : Int) % (256 : Int)] ++ strNs nm ++ [f / (16777216 : Int) % (256 : Int), f / (65536 : Int) % (256 : Int), f / (256 : Int) % (256 : Int), f % (256 : Int)] ++ recs l g) + List.length (List.take (5 : Nat) (tframe (↑g : Int) (List.getD l g (0 : Int))))) (1 : Nat) ∧ fits IntKind.i64 ((↑g : Int) + (1 : Int)) ∧ ∃ (g' : Nat), Nat.le g' (List.length l) ∧ List.length l - g' < List.length l - g ∧ (↑g : Int) + (1 : Int) = (↑g' : Int) ∧ (↑(List.length l) : Int) = (↑(List.length l) : Int) ∧ l = l ∧ [(82 : Int), (69 : Int), (69 : Int), (76 : Int)] ++ [(↑(List.length nm) : Int) % (256 : Int)] ++ strNs nm ++ [f / (16777216 : Int) % (256 : Int), f / (65536 : Int) % (256 : Int), f / (256 : Int) % (256 : Int), f % (256 : Int)] ++ recs l g ++ List.take (5 : Nat) (tframe (↑g : Int) (List.getD l g (0 : Int))) = [(82 : Int), (69 : Int), (69 : Int), (76 : Int)] ++ [(↑(List.length nm) : Int) % (256 : Int)] ++ strNs nm ++ [f / (16777216 : Int) % (256 : Int), f / (65536 : Int) % (256 : Int), f / (256 : Int) % (256 : Int), f % (256 : Int)] ++ recs l g' ∧ [f / (16777216 : Int) % (256 : Int), f / (65536 : Int) % (256 : Int), f / (256 : Int) % (256 : Int), f % (256 : Int)] = [f / (16777216 : Int) % (256 : Int), f / (65536 : Int) % (256 : Int), f / (256 : Int) % (256 : Int), f % (256 : Int)] ∧ [(↑(List.length nm) : Int) % (256 : Int)] = [(↑(List.length nm) : Int) % (256 : Int)] ∧ nm = nm ∧ f = f ∧ l = l ∧ True) ((List.length l ≤ (1000000 : Nat) ∧ ∀ (x : Int), x ∈ l → (0 : Int) ≤ x ∧ x ≤ (65535 : Int)) ∧ ((0 : Int) ≤ (0 : Int) ∧ (0 : Int) ≤ (5 : Int) ∧ (5 : Int) ≤ (5 : Int)) ∧ List.length (List.take (5 : Nat) (tlast l)) = (5 : Nat) ∧ room (List.length ([(82 : Int), (69 : Int), (69 : Int), (76 : Int)] ++ [(↑(List.length nm) : Int) % (256 : Int)] ++ strNs nm ++ [f / (16777216 : Int) % (256 : Int), f / (65536 : Int) % (256 : Int), f / (256 : Int) % (256 : Int), f % (256 : Int)] ++ recs l g) + List.length (List.take (5 : Nat) (tlast l))) (1 : Nat) ∧ [(82 : Int), (69 : Int), (69 : Int), (76 : Int)] ++ [(↑(List.length nm) : Int) % (256 : Int)] ++ strNs nm ++ [f / (16777216 : Int) % (256 : Int), f / (65536 : Int) % (256 : Int), f / (256 : Int) % (256 : Int), f % (256 : Int)] ++ recs l g ++ List.take (5 : Nat) (tlast l) = stream nm f l ∧ (0 : Int) = (0 : Int) ∧ True)))) := by
  kernel_rfl
end Go.Sx

/- Contracts: Taped. -/
namespace Go.Sx
open U

theorem tframe_len (i c : Int) : (tframe i c).length = 5 := rfl
theorem tlast_len (l : List Int) : (tlast l).length = 5 := rfl
theorem recs_len (l : List Int) : ∀ n, (recs l n).length = 5 * n
  | 0 => rfl
  | n + 1 => by simp only [recs, List.length_append, recs_len l n, tframe_len]; omega
theorem strNs_len (l : List UInt8) : (strNs l).length = l.length := by simp [strNs]
theorem isName_len {nm : List UInt8} (h : isName nm = true) : nm.length ≤ 24 ∧ nm ≠ [] := by
  unfold isName at h
  simp only [Bool.and_eq_true, decide_eq_true_eq] at h
  exact ⟨h.2.2, h.2.1⟩

theorem fn21 (nm : List UInt8) (f : Int) (l : List Int) (h : ReelOk nm f l) : Fn P1 gl1 21 [rV nm f l] (.tup [.one (.frs (.int .u8) (stream nm f l)), iV 0]) true := by
  refine Fn.flat ?_ rfl
  refine fn_of false [(71, sp71), (73, sp73), (74, sp74)] [fb72] h21 3 Proofs.Tryd.f21 ⟨so71, so73, so74, trivial⟩ ⟨⟨by kernel_rfl, by kernel_rfl, _, rfl, by kernel_rfl⟩, trivial⟩ (by kernel_rfl) rfl (by kernel_rfl) rfl rfl rfl ?_
  rw [vc21]
  try simp only [splitB_iff, -eq_self]
  have hlen := h.len
  have hz : checkReel nm f l = 0 := checkReel_zero.2 h
  have hnm := isName_len h.name
  refine ⟨by omega, fun h1 => ?_, fun _ => ⟨by decide, fun b hb => ⟨fun h1 => ?_, fun _ => ?_⟩⟩⟩
  · rw [hz] at h1; cases h1
  · cases b with
    | true => exact absurd (hb rfl) (by decide)
    | false => cases h1
  · have hr : ∀ g, g ≤ l.length → ([(82 : Int), 69, 69, 76] ++ [(nm.length : Int) % 256] ++ strNs nm ++ [f / 16777216 % 256, f / 65536 % 256, f / 256 % 256, f % 256] ++ recs l g).length ≤ 2000 := by
      intro g hg
      simp only [List.length_append, recs_len, strNs_len, List.length_cons, List.length_nil]
      omega
    refine ⟨by simp only [room]; omega, by simp only [room]; omega, ?_, by decide, by decide, by decide, ?_, ⟨0, Nat.zero_le _, rfl, rfl, rfl, by simp [recs], rfl, rfl, rfl, rfl, rfl, trivial⟩, fun g hg => ⟨fun hlt => ?_, fun hge => ?_⟩⟩
    · simp only [room, List.length_append, List.length_cons, List.length_nil]; omega
    · simp only [room, List.length_append, List.length_cons, List.length_nil, strNs_len]; omega
    · have hlt' : g < l.length := by simpa using hlt
      have hx := h.w _ (List.getElem_mem hlt')
      have h5 := hr g hg
      rw [getD_of hlt']
      have e5 : List.take 5 (tframe (g : Int) l[g]) = tframe (g : Int) l[g] := rfl
      rw [e5]
      refine ⟨by omega, by omega, by decide, rfl, ?_, by simp only [fits]; omega, g + 1, hlt', by omega, by simp, rfl, rfl, ?_, rfl, rfl, rfl, rfl, rfl, trivial⟩
      · simp only [room, tframe_len]; omega
      · simp only [recs, getD_of hlt', List.append_assoc]
    · have hge' : ¬ g < l.length := by simpa using hge
      have e : g = l.length := by have : g ≤ l.length := hg; omega
      subst e
      have h5 := hr l.length hg
      have e5 : List.take 5 (tlast l) = tlast l := rfl
      rw [e5]
      refine ⟨⟨by omega, h.w⟩, by decide, rfl, ?_, rfl, rfl, trivial⟩
      simp only [room, tlast_len]; omega
def sp21 : FSpec := ⟨fun vs => match vs with
  | [.agg [.one (.str nm), .one (.int .i64 f), .one (.sl (.int .i64) l)]] => some ([ReelOk nm f l], .tup [.one (.frs (.int .u8) (stream nm f l)), iV 0])
  | _ => none, true⟩
theorem so21_ : SpecOk P1 gl1 21 sp21 := by
  intro vs ps r h hp
  simp only [sp21] at h
  split at h
  · cases h
    exact fn21 _ _ _ (hp _ (List.mem_singleton.2 rfl))
  · cases h
theorem so21 : Sp1 21 sp21 := ⟨so21_, Proofs.Tryd.f21, _, by kernel_rfl, rfl, by kernel_rfl⟩
end Go.Sx

/- Plain functions and hints: Read and Rebuilt. -/
namespace Go.Sx.U
/-- The beginning of a stream: the error, the name, the first number, what is left. -/
def rdBegin (s : List Int) : Int × List UInt8 × Int × List Int :=
  if s.length < 4 then (28, [], 0, []) else
  if s.take 4 = [82, 69, 69, 76] then
    if (s.drop 4).length < 1 then (28, [], 0, []) else
    if ((s.drop 4).drop 1).length < ((s.drop 4).getD 0 0).toNat then (28, [], 0, []) else
    if plain (bytesOf (((s.drop 4).drop 1).take ((s.drop 4).getD 0 0).toNat)) && isName (bytesOf (((s.drop 4).drop 1).take ((s.drop 4).getD 0 0).toNat)) then
      if (((s.drop 4).drop 1).drop ((s.drop 4).getD 0 0).toNat).length < 4 then (28, [], 0, []) else
      (whenE (decide (10000000 < number ((((s.drop 4).drop 1).drop ((s.drop 4).getD 0 0).toNat).take 4))) 1, bytesOf (((s.drop 4).drop 1).take ((s.drop 4).getD 0 0).toNat),
        number ((((s.drop 4).drop 1).drop ((s.drop 4).getD 0 0).toNat).take 4), (((s.drop 4).drop 1).drop ((s.drop 4).getD 0 0).toNat).drop 4)
    else (1, [], 0, [])
  else (1, [], 0, [])
/-- The check in a record. -/
def chk (r : List Int) (j : Nat) : Int := number (((r.drop (5 * j)).drop 1).take 2)
def chks (r : List Int) (i : Nat) : List Int := (List.range i).map (chk r)
/-- The next record, behind some frames: the error, whether it is the last one, the check. -/
def recErr (k : Int) (n : Nat) : Int := first [whenE (!(k == 69) && (k != 70)) 1, whenE (!(k == 69) && ((n : Int) == 256)) 5]
def rdRec (s : List Int) (l : List Int) : Int × Bool × Int :=
  if s.length < 1 then (28, false, 0) else
  if recErr (s.getD 0 0) l.length = 0 then
    if s.length < 5 then (28, false, 0) else
    (whenE (!decide (s.take 5 = if (s.getD 0 0 == 69) = true then tlast l else tframe l.length (number ((s.drop 1).take 2)))) 27, s.getD 0 0 == 69, number ((s.drop 1).take 2))
  else (recErr (s.getD 0 0) l.length, false, 0)
/-- The records: the error, the checks, what is left. -/
def rdAll : Nat → List Int → List Int → Int × List Int × List Int
  | 0, s, l => (28, l, s)
  | n + 1, s, l => if (rdRec s l).1 = 0 then (if (rdRec s l).2.1 then (0, l, s.drop 5) else rdAll n (s.drop 5) (l ++ [(rdRec s l).2.2])) else ((rdRec s l).1, l, s)
def readS (s : List Int) : (List UInt8 × Int × List Int) × Int :=
  if (rdBegin s).1 = 0 then
    if (rdAll (s.length + 1) (rdBegin s).2.2.2 []).1 = 0 then
      if first [whenE (decide (0 < (rdAll (s.length + 1) (rdBegin s).2.2.2 []).2.2.length)) 23, checkReel (rdBegin s).2.1 (rdBegin s).2.2.1 (rdAll (s.length + 1) (rdBegin s).2.2.2 []).2.1] = 0 then
        (((rdBegin s).2.1, (rdBegin s).2.2.1, (rdAll (s.length + 1) (rdBegin s).2.2.2 []).2.1), 0)
      else (([], 0, []), first [whenE (decide (0 < (rdAll (s.length + 1) (rdBegin s).2.2.2 []).2.2.length)) 23, checkReel (rdBegin s).2.1 (rdBegin s).2.2.1 (rdAll (s.length + 1) (rdBegin s).2.2.2 []).2.1])
    else (([], 0, []), (rdAll (s.length + 1) (rdBegin s).2.2.2 []).1)
  else (([], 0, []), (rdBegin s).1)
/-- The checks that are rebuilt. -/
def rbAll (f : Int) : Nat → List Int → List Int → List Int
  | 0, _, l => l
  | n + 1, s, l => if (rdRec s l).1 = 0 ∧ (rdRec s l).2.1 = false ∧ f + (l.length : Int) < 10000000 then rbAll f n (s.drop 5) (l ++ [(rdRec s l).2.2]) else l
def rebuilt (s : List Int) : (List UInt8 × Int × List Int) × Bool × Int :=
  if (rdBegin s).1 = 0 then
    if (rbAll (rdBegin s).2.2.1 (s.length + 1) (rdBegin s).2.2.2 []).length = 0 then (([], 0, []), false, 12)
    else (((rdBegin s).2.1, (rdBegin s).2.2.1, rbAll (rdBegin s).2.2.1 (s.length + 1) (rdBegin s).2.2.2 []), decide ((readS s).2 = 0), 0)
  else (([], 0, []), false, (rdBegin s).1)
end Go.Sx.U
namespace Go.Sx
open U
def boxAt (s : St) (t : Nat) : Option (Nat × List Ch) := match lookT s.tm t with
  | some (.val (.one (.ptr id 0))) => match lookO s.ob id with
    | some (.box cs) => some (id, cs)
    | _ => none
  | _ => none
/-- The loop over the records: the temporaries of the reader, of the reel and of the result; what is kept. -/
def hRecs (tr tl t2 : Nat) (keep : List Nat) (q : List Int → List UInt8 → Int → Nat → Prop) (s : St) : Option LInv := match boxAt s tr, boxAt s tl, boxAt s t2 with
  | some (ir, [.one (.sl (.int .u8) r)]), some (il, [.one (.str nm), .one (.int .i64 f), _]), some (i2, c2) =>
    some ⟨Nat, fun i => ⟨keepT (tr :: tl :: t2 :: keep) s.tm, [(i2, some (.box c2)), (ir, some (.box [.one (.sl (.int .u8) (List.drop (5 * i) r))])), (il, some (.box [.one (.str nm), .one (.int .i64 f), .one (.own s.nx)])), (s.nx, some (.row (.int .i64) (chks r i)))], s.nx + 1, s.lr⟩,
      fun i => 5 * i ≤ List.length r ∧ i ≤ 256 ∧ q r nm f i, fun i => List.length r - 5 * i⟩
  | _, _, _ => none
/-- What holds at a turn of the loop over the records. -/
def rdAt (r : List Int) (_ : List UInt8) (_ : Int) (i : Nat) : Prop := ∀ n, rdAll (n + i) r [] = rdAll n (List.drop (5 * i) r) (chks r i)
def rbAt (r : List Int) (_ : List UInt8) (f : Int) (i : Nat) : Prop := ∀ n, rbAll f (n + i) r [] = rbAll f n (List.drop (5 * i) r) (chks r i)
def h23 : Hints := ⟨fun f k s => match f, k with
  | 23, 5 => hRecs 4 5 2 [] rdAt s
  | _, _ => none, 0⟩
def h22 : Hints := ⟨fun f k s => match f, k with
  | 22, 5 => hRecs 5 6 2 [0] rbAt s
  | _, _ => none, 0⟩
@[reducible] def rfV (nm : List UInt8) (f : Int) (l : List Int) : V := .agg [.one (.str nm), .one (.int .i64 f), .one (.frs (.int .i64) l)]
@[reducible] noncomputable def fb75 : Nat × Func := (75, Proofs.Tryd.f75)
@[reducible] noncomputable def fb76 : Nat × Func := (76, Proofs.Tryd.f76)
@[reducible] noncomputable def fb126 : Nat × Func := (126, Proofs.Tryd.f126)
end Go.Sx

/- What the engine asks, written out (printed by a program). -/
namespace Go.Sx
open U
theorem vc23 (s : List Int) : exFr (env false [(71, sp71), (73, sp73), (74, sp74), (78, sp78), (79, sp79), (121, sp121), (127, sp127), (128, sp128)] [fb75, fb76, fb126]) h23 3 23 Proofs.Tryd.f23 [.one (.sl (.int .u8) s)] (.tup [rV (U.readS s).1.1 (U.readS s).1.2.1 (U.readS s).1.2.2, iV (U.readS s).2]) = (splitB (decide ((↑(List.length s) : Int) < (4 : Int))) ([] = Prod.fst (Prod.fst (readS s)) ∧ (0 : Int) = Prod.fst (Prod.snd (Prod.fst (readS s))) ∧ Prod.snd (Prod.snd (Prod.fst (readS s))) = [] ∧ (28 : Int) = Prod.snd (readS s) ∧ True) (((0 : Int) ≤ (0 : Int) ∧ (0 : Int) ≤ (4 : Int) ∧ (4 : Int) ≤ (↑(List.length s) : Int)) ∧ ((0 : Int) ≤ (4 : Int) ∧ (4 : Int) ≤ (↑(List.length s) : Int) ∧ (↑(List.length s) : Int) ≤ (↑(List.length s) : Int)) ∧ (4 : Nat) ≤ List.length (List.take (4 : Nat) s) ∧ splitB (!eqT (Ty.arr (4 : Nat) (Ty.int IntKind.u8)) (List.take (4 : Nat) (List.take (4 : Nat) s)) [(82 : Int), (69 : Int), (69 : Int), (76 : Int)]) ([] = Prod.fst (Prod.fst (readS s)) ∧ (0 : Int) = Prod.fst (Prod.snd (Prod.fst (readS s))) ∧ Prod.snd (Prod.snd (Prod.fst (readS s))) = [] ∧ (1 : Int) = Prod.snd (readS s) ∧ True) (splitB (decide ((↑(List.length (List.drop (4 : Nat) s)) : Int) < (1 : Int))) ([] = Prod.fst (Prod.fst (readS s)) ∧ (0 : Int) = Prod.fst (Prod.snd (Prod.fst (readS s))) ∧ Prod.snd (Prod.snd (Prod.fst (readS s))) = [] ∧ (28 : Int) = Prod.snd (readS s) ∧ True) (((0 : Int) ≤ (0 : Int) ∧ (0 : Int) ≤ (1 : Int) ∧ (1 : Int) ≤ (↑(List.length (List.drop (4 : Nat) s)) : Int)) ∧ ((0 : Int) ≤ (1 : Int) ∧ (1 : Int) ≤ (↑(List.length (List.drop (4 : Nat) s)) : Int) ∧ (↑(List.length (List.drop (4 : Nat) s)) : Int) ≤ (↑(List.length (List.drop (4 : Nat) s)) : Int)) ∧ ((0 : Int) ≤ (0 : Int) ∧ (0 : Int) < (↑(List.length (List.take (1 : Nat) (List.drop (4 : Nat) s))) : Int)) ∧ fits IntKind.i64 (List.getD (List.take (1 : Nat) (List.drop (4 : Nat) s)) (0 : Nat) (0 : Int)) ∧ splitB (decide ((↑(List.length (List.drop (1 : Nat) (List.drop (4 : Nat) s))) : Int) < List.getD (List.take (1 : Nat) (List.drop (4 : Nat) s)) (0 : Nat) (0 : Int))) ([] = Prod.fst (Prod.fst (readS s)) ∧ (0 : Int) = Prod.fst (Prod.snd (Prod.fst (readS s))) ∧ Prod.snd (Prod.snd (Prod.fst (readS s))) = [] ∧ (28 : Int) = Prod.snd (readS s) ∧ True) (((0 : Int) ≤ (0 : Int) ∧ (0 : Int) ≤ List.getD (List.take (1 : Nat) (List.drop (4 : Nat) s)) (0 : Nat) (0 : Int) ∧ List.getD (List.take (1 : Nat) (List.drop (4 : Nat) s)) (0 : Nat) (0 : Int) ≤ (↑(List.length (List.drop (1 : Nat) (List.drop (4 : Nat) s))) : Int)) ∧ ((0 : Int) ≤ List.getD (List.take (1 : Nat) (List.drop (4 : Nat) s)) (0 : Nat) (0 : Int) ∧ List.getD (List.take (1 : Nat) (List.drop (4 : Nat) s)) (0 : Nat) (0 : Int) ≤ (↑(List.length (List.drop (1 : Nat) (List.drop (4 : Nat) s))) : Int) ∧ (↑(List.length (List.drop (1 : Nat) (List.drop (4 : Nat) s))) : Int) ≤ (↑(List.length (List.drop (1 : Nat) (List.drop (4 : Nat) s))) : Int)) ∧ splitB (bif !plain (bytesOf (List.take (Int.toNat (List.getD (List.take (1 : Nat) (List.drop (4 : Nat) s)) (0 : Nat) (0 : Int))) (List.drop (1 : Nat) (List.drop (4 : Nat) s)))) then true else !isName (bytesOf (List.take (Int.toNat (List.getD (List.take (1 : Nat) (List.drop (4 : Nat) s)) (0 : Nat) (0 : Int))) (List.drop (1 : Nat) (List.drop (4 : Nat) s))))) ([] = Prod.fst (Prod.fst (readS s)) ∧ (0 : Int) = Prod.fst (Prod.snd (Prod.fst (readS s))) ∧ Prod.snd (Prod.snd (Prod.fst (readS s))) = [] ∧ (1 : Int) = Prod.snd (readS s) ∧ True) (splitB (decide ((↑(List.length (List.drop (Int.toNat (List.getD (List.take (1 : Nat) (List.drop (4 : Nat) s)) (0 : Nat) (0 : Int))) (List.drop (1 : Nat) (List.drop (4 : Nat) s)))) : Int) < (4 : Int))) ([] = Prod.fst (Prod.fst (readS s)) ∧ (0 : Int) = Prod.fst (Prod.snd (Prod.fst (readS s))) ∧ Prod.snd (Prod.snd (Prod.fst (readS s))) = [] ∧ (28 : Int) = Prod.snd (readS s) ∧ True) (((0 : Int) ≤ (0 : Int) ∧ (0 : Int) ≤ (4 : Int) ∧ (4 : Int) ≤ (↑(List.length (List.drop (Int.toNat (List.getD (List.take (1 : Nat) (List.drop (4 : Nat) s)) (0 : Nat) (0 : Int))) (List.drop (1 : Nat) (List.drop (4 : Nat) s)))) : Int)) ∧ ((0 : Int) ≤ (4 : Int) ∧ (4 : Int) ≤ (↑(List.length (List.drop (Int.toNat (List.getD (List.take (1 : Nat) (List.drop (4 : Nat) s)) (0 : Nat) (0 : Int))) (List.drop (1 : Nat) (List.drop (4 : Nat) s)))) : Int) ∧ (↑(List.length (List.drop (Int.toNat (List.getD (List.take (1 : Nat) (List.drop (4 : Nat) s)) (0 : Nat) (0 : Int))) (List.drop (1 : Nat) (List.drop (4 : Nat) s)))) : Int) ≤ (↑(List.length (List.drop (Int.toNat (List.getD (List.take (1 : Nat) (List.drop (4 : Nat) s)) (0 : Nat) (0 : Int))) (List.drop (1 : Nat) (List.drop (4 : Nat) s)))) : Int)) ∧ (List.length (List.take (4 : Nat) (List.drop (Int.toNat (List.getD (List.take (1 : Nat) (List.drop (4 : Nat) s)) (0 : Nat) (0 : Int))) (List.drop (1 : Nat) (List.drop (4 : Nat) s)))) ≤ (4 : Nat) ∧ Bytes (List.take (4 : Nat) (List.drop (Int.toNat (List.getD (List.take (1 : Nat) (List.drop (4 : Nat) s)) (0 : Nat) (0 : Int))) (List.drop (1 : Nat) (List.drop (4 : Nat) s))))) ∧ splitB (whenE (decide ((10000000 : Int) < number (List.take (4 : Nat) (List.drop (Int.toNat (List.getD (List.take (1 : Nat) (List.drop (4 : Nat) s)) (0 : Nat) (0 : Int))) (List.drop (1 : Nat) (List.drop (4 : Nat) s)))))) (1 : Int) != (0 : Int)) ([] = Prod.fst (Prod.fst (readS s)) ∧ (0 : Int) = Prod.fst (Prod.snd (Prod.fst (readS s))) ∧ Prod.snd (Prod.snd (Prod.fst (readS s))) = [] ∧ whenE (decide ((10000000 : Int) < number (List.take (4 : Nat) (List.drop (Int.toNat (List.getD (List.take (1 : Nat) (List.drop (4 : Nat) s)) (0 : Nat) (0 : Int))) (List.drop (1 : Nat) (List.drop (4 : Nat) s)))))) (1 : Int) = Prod.snd (readS s) ∧ True) ((∃ (g : Nat), ((5 : Nat) * g ≤ List.length (List.drop (4 : Nat) (List.drop (Int.toNat (List.getD (List.take (1 : Nat) (List.drop (4 : Nat) s)) (0 : Nat) (0 : Int))) (List.drop (1 : Nat) (List.drop (4 : Nat) s)))) ∧ g ≤ (256 : Nat) ∧ ∀ (n : Nat), rdAll (n + g) (List.drop (4 : Nat) (List.drop (Int.toNat (List.getD (List.take (1 : Nat) (List.drop (4 : Nat) s)) (0 : Nat) (0 : Int))) (List.drop (1 : Nat) (List.drop (4 : Nat) s)))) [] = rdAll n (List.drop ((5 : Nat) * g) (List.drop (4 : Nat) (List.drop (Int.toNat (List.getD (List.take (1 : Nat) (List.drop (4 : Nat) s)) (0 : Nat) (0 : Int))) (List.drop (1 : Nat) (List.drop (4 : Nat) s))))) (chks (List.drop (4 : Nat) (List.drop (Int.toNat (List.getD (List.take (1 : Nat) (List.drop (4 : Nat) s)) (0 : Nat) (0 : Int))) (List.drop (1 : Nat) (List.drop (4 : Nat) s)))) g)) ∧ nilB = [] ∧ (0 : Int) = (0 : Int) ∧ List.drop (4 : Nat) (List.drop (Int.toNat (List.getD (List.take (1 : Nat) (List.drop (4 : Nat) s)) (0 : Nat) (0 : Int))) (List.drop (1 : Nat) (List.drop (4 : Nat) s))) = List.drop ((5 : Nat) * g) (List.drop (4 : Nat) (List.drop (Int.toNat (List.getD (List.take (1 : Nat) (List.drop (4 : Nat) s)) (0 : Nat) (0 : Int))) (List.drop (1 : Nat) (List.drop (4 : Nat) s)))) ∧ bytesOf (List.take (Int.toNat (List.getD (List.take (1 : Nat) (List.drop (4 : Nat) s)) (0 : Nat) (0 : Int))) (List.drop (1 : Nat) (List.drop (4 : Nat) s))) = bytesOf (List.take (Int.toNat (List.getD (List.take (1 : Nat) (List.drop (4 : Nat) s)) (0 : Nat) (0 : Int))) (List.drop (1 : Nat) (List.drop (4 : Nat) s))) ∧ number (List.take (4 : Nat) (List.drop (Int.toNat (List.getD (List.take (1 : Nat) (List.drop (4 : Nat) s)) (0 : Nat) (0 : Int))) (List.drop (1 : Nat) (List.drop (4 : Nat) s)))) = number (List.take (4 : Nat) (List.drop (Int.toNat (List.getD (List.take (1 : Nat) (List.drop (4 : Nat) s)) (0 : Nat) (0 : Int))) (List.drop (1 : Nat) (List.drop (4 : Nat) s)))) ∧ chks (List.drop (4 : Nat) (List.drop (Int.toNat (List.getD (List.take (1 : Nat) (List.drop (4 : Nat) s)) (0 : Nat) (0 : Int))) (List.drop (1 : Nat) (List.drop (4 : Nat) s)))) g = [] ∧ True) ∧ ∀ (g : Nat), ((5 : Nat) * g ≤ List.length (List.drop (4 : Nat) (List.drop (Int.toNat (List.getD (List.take (1 : Nat) (List.drop (4 : Nat) s)) (0 : Nat) (0 : Int))) (List.drop (1 : Nat) (List.drop (4 : Nat) s)))) ∧ g ≤ (256 : Nat) ∧ ∀ (n : Nat), rdAll (n + g) (List.drop (4 : Nat) (List.drop (Int.toNat (List.getD (List.take (1 : Nat) (List.drop (4 : Nat) s)) (0 : Nat) (0 : Int))) (List.drop (1 : Nat) (List.drop (4 : Nat) s)))) [] = rdAll n (List.drop ((5 : Nat) * g) (List.drop (4 : Nat) (List.drop (Int.toNat (List.getD (List.take (1 : Nat) (List.drop (4 : Nat) s)) (0 : Nat) (0 : Int))) (List.drop (1 : Nat) (List.drop (4 : Nat) s))))) (chks (List.drop (4 : Nat) (List.drop (Int.toNat (List.getD (List.take (1 : Nat) (List.drop (4 : Nat) s)) (0 : Nat) (0 : Int))) (List.drop (1 : Nat) (List.drop (4 : Nat) s)))) g)) → splitB (decide ((↑(List.length (List.drop ((5 : Nat) * g) (List.drop (4 : Nat) (List.drop (Int.toNat (List.getD (List.take (1 : Nat) (List.drop (4 : Nat) s)) (0 : Nat) (0 : Int))) (List.drop (1 : Nat) (List.drop (4 : Nat) s)))))) : Int) < (1 : Int))) ([] = Prod.fst (Prod.fst (readS s)) ∧ (0 : Int) = Prod.fst (Prod.snd (Prod.fst (readS s))) ∧ Prod.snd (Prod.snd (Prod.fst (readS s))) = [] ∧ (28 : Int) = Prod.snd (readS s) ∧ True) (((0 : Int) ≤ (0 : Int) ∧ (0 : Int) ≤ (1 : Int) ∧ (1 : Int) ≤ (↑(List.length (List.drop ((5 : Nat) * g) (List.drop (4 : Nat) (List.drop (Int.toNat (List.getD (List.take (1 : Nat) (List.drop (4 : Nat) s)) (0 : Nat) (0 : Int))) (List.drop (1 : Nat) (List.drop (4 : Nat) s)))))) : Int)) ∧ ((0 : Int) ≤ (1 : Int) ∧ (1 : Int) ≤ (↑(List.length (List.drop ((5 : Nat) * g) (List.drop (4 : Nat) (List.drop (Int.toNat (List.getD (List.take (1 : Nat) (List.drop (4 : Nat) s)) (0 : Nat) (0 : Int))) (List.drop (1 : Nat) (List.drop (4 : Nat) s)))))) : Int) ∧ (↑(List.length (List.drop ((5 : Nat) * g) (List.drop (4 : Nat) (List.drop (Int.toNat (List.getD (List.take (1 : Nat) (List.drop (4 : Nat) s)) (0 : Nat) (0 : Int))) (List.drop (1 : Nat) (List.drop (4 : Nat) s)))))) : Int) ≤ (↑(List.length (List.drop ((5 : Nat) * g) (List.drop (4 : Nat) (List.drop (Int.toNat (List.getD (List.take (1 : Nat) (List.drop (4 : Nat) s)) (0 : Nat) (0 : Int))) (List.drop (1 : Nat) (List.drop (4 : Nat) s)))))) : Int)) ∧ ((0 : Int) ≤ (0 : Int) ∧ (0 : Int) < (↑(List.length (List.take (1 : Nat) (List.drop ((5 : Nat) * g) (List.drop (4 : Nat) (List.drop (Int.toNat (List.getD (List.take (1 : Nat) (List.drop (4 : Nat) s)) (0 : Nat) (0 : Int))) (List.drop (1 : Nat) (List.drop (4 : Nat) s))))))) : Int)) ∧ ((!List.getD (List.take (1 : Nat) (List.drop ((5 : Nat) * g) (List.drop (4 : Nat) (List.drop (Int.toNat (List.getD (List.take (1 : Nat) (List.drop (4 : Nat) s)) (0 : Nat) (0 : Int))) (List.drop (1 : Nat) (List.drop (4 : Nat) s)))))) (0 : Nat) (0 : Int) == (69 : Int)) = true → (0 : Int) ≤ (0 : Int) ∧ (0 : Int) < (↑(List.length (List.take (1 : Nat) (List.drop ((5 : Nat) * g) (List.drop (4 : Nat) (List.drop (Int.toNat (List.getD (List.take (1 : Nat) (List.drop (4 : Nat) s)) (0 : Nat) (0 : Int))) (List.drop (1 : Nat) (List.drop (4 : Nat) s))))))) : Int)) ∧ (2 : Nat) ≤ (1000000000 : Nat) ∧ splitB (first [whenE (bif !List.getD (List.take (1 : Nat) (List.drop ((5 : Nat) * g) (List.drop (4 : Nat) (List.drop (Int.toNat (List.getD (List.take (1 : Nat) (List.drop (4 : Nat) s)) (0 : Nat) (0 : Int))) (List.drop (1 : Nat) (List.drop (4 : Nat) s)))))) (0 : Nat) (0 : Int) == (69 : Int) then List.getD (List.take (1 : Nat) (List.drop ((5 : Nat) * g) (List.drop (4 : Nat) (List.drop (Int.toNat (List.getD (List.take (1 : Nat) (List.drop (4 : Nat) s)) (0 : Nat) (0 : Int))) (List.drop (1 : Nat) (List.drop (4 : Nat) s)))))) (0 : Nat) (0 : Int) != (70 : Int) else false) (1 : Int), whenE (bif !List.getD (List.take (1 : Nat) (List.drop ((5 : Nat) * g) (List.drop (4 : Nat) (List.drop (Int.toNat (List.getD (List.take (1 : Nat) (List.drop (4 : Nat) s)) (0 : Nat) (0 : Int))) (List.drop (1 : Nat) (List.drop (4 : Nat) s)))))) (0 : Nat) (0 : Int) == (69 : Int) then (↑(List.length (chks (List.drop (4 : Nat) (List.drop (Int.toNat (List.getD (List.take (1 : Nat) (List.drop (4 : Nat) s)) (0 : Nat) (0 : Int))) (List.drop (1 : Nat) (List.drop (4 : Nat) s)))) g)) : Int) == (256 : Int) else false) (5 : Int)] != (0 : Int)) (splitB (first [whenE (bif !List.getD (List.take (1 : Nat) (List.drop ((5 : Nat) * g) (List.drop (4 : Nat) (List.drop (Int.toNat (List.getD (List.take (1 : Nat) (List.drop (4 : Nat) s)) (0 : Nat) (0 : Int))) (List.drop (1 : Nat) (List.drop (4 : Nat) s)))))) (0 : Nat) (0 : Int) == (69 : Int) then List.getD (List.take (1 : Nat) (List.drop ((5 : Nat) * g) (List.drop (4 : Nat) (List.drop (Int.toNat (List.getD (List.take (1 : Nat) (List.drop (4 : Nat) s)) (0 : Nat) (0 : Int))) (List.drop (1 : Nat) (List.drop (4 : Nat) s)))))) (0 : Nat) (0 : Int) != (70 : Int) else false) (1 : Int), whenE (bif !List.getD (List.take (1 : Nat) (List.drop ((5 : Nat) * g) (List.drop (4 : Nat) (List.drop (Int.toNat (List.getD (List.take (1 : Nat) (List.drop (4 : Nat) s)) (0 : Nat) (0 : Int))) (List.drop (1 : Nat) (List.drop (4 : Nat) s)))))) (0 : Nat) (0 : Int) == (69 : Int) then (↑(List.length (chks (List.drop (4 : Nat) (List.drop (Int.toNat (List.getD (List.take (1 : Nat) (List.drop (4 : Nat) s)) (0 : Nat) (0 : Int))) (List.drop (1 : Nat) (List.drop (4 : Nat) s)))) g)) : Int) == (256 : Int) else false) (5 : Int)] != (0 : Int)) ([] = Prod.fst (Prod.fst (readS s)) ∧ (0 : Int) = Prod.fst (Prod.snd (Prod.fst (readS s))) ∧ Prod.snd (Prod.snd (Prod.fst (readS s))) = [] ∧ first [whenE (bif !List.getD (List.take (1 : Nat) (List.drop ((5 : Nat) * g) (List.drop (4 : Nat) (List.drop (Int.toNat (List.getD (List.take (1 : Nat) (List.drop (4 : Nat) s)) (0 : Nat) (0 : Int))) (List.drop (1 : Nat) (List.drop (4 : Nat) s)))))) (0 : Nat) (0 : Int) == (69 : Int) then List.getD (List.take (1 : Nat) (List.drop ((5 : Nat) * g) (List.drop (4 : Nat) (List.drop (Int.toNat (List.getD (List.take (1 : Nat) (List.drop (4 : Nat) s)) (0 : Nat) (0 : Int))) (List.drop (1 : Nat) (List.drop (4 : Nat) s)))))) (0 : Nat) (0 : Int) != (70 : Int) else false) (1 : Int), whenE (bif !List.getD (List.take (1 : Nat) (List.drop ((5 : Nat) * g) (List.drop (4 : Nat) (List.drop (Int.toNat (List.getD (List.take (1 : Nat) (List.drop (4 : Nat) s)) (0 : Nat) (0 : Int))) (List.drop (1 : Nat) (List.drop (4 : Nat) s)))))) (0 : Nat) (0 : Int) == (69 : Int) then (↑(List.length (chks (List.drop (4 : Nat) (List.drop (Int.toNat (List.getD (List.take (1 : Nat) (List.drop (4 : Nat) s)) (0 : Nat) (0 : Int))) (List.drop (1 : Nat) (List.drop (4 : Nat) s)))) g)) : Int) == (256 : Int) else false) (5 : Int)] = Prod.snd (readS s) ∧ True) (room (List.length (chks (List.drop (4 : Nat) (List.drop (Int.toNat (List.getD (List.take (1 : Nat) (List.drop (4 : Nat) s)) (0 : Nat) (0 : Int))) (List.drop (1 : Nat) (List.drop (4 : Nat) s)))) g) + (1 : Nat)) (8 : Nat) ∧ ∃ (g' : Nat), ((5 : Nat) * g' ≤ List.length (List.drop (4 : Nat) (List.drop (Int.toNat (List.getD (List.take (1 : Nat) (List.drop (4 : Nat) s)) (0 : Nat) (0 : Int))) (List.drop (1 : Nat) (List.drop (4 : Nat) s)))) ∧ g' ≤ (256 : Nat) ∧ ∀ (n : Nat), rdAll (n + g') (List.drop (4 : Nat) (List.drop (Int.toNat (List.getD (List.take (1 : Nat) (List.drop (4 : Nat) s)) (0 : Nat) (0 : Int))) (List.drop (1 : Nat) (List.drop (4 : Nat) s)))) [] = rdAll n (List.drop ((5 : Nat) * g') (List.drop (4 : Nat) (List.drop (Int.toNat (List.getD (List.take (1 : Nat) (List.drop (4 : Nat) s)) (0 : Nat) (0 : Int))) (List.drop (1 : Nat) (List.drop (4 : Nat) s))))) (chks (List.drop (4 : Nat) (List.drop (Int.toNat (List.getD (List.take (1 : Nat) (List.drop (4 : Nat) s)) (0 : Nat) (0 : Int))) (List.drop (1 : Nat) (List.drop (4 : Nat) s)))) g')) ∧ List.length (List.drop (4 : Nat) (List.drop (Int.toNat (List.getD (List.take (1 : Nat) (List.drop (4 : Nat) s)) (0 : Nat) (0 : Int))) (List.drop (1 : Nat) (List.drop (4 : Nat) s)))) - (5 : Nat) * g' < List.length (List.drop (4 : Nat) (List.drop (Int.toNat (List.getD (List.take (1 : Nat) (List.drop (4 : Nat) s)) (0 : Nat) (0 : Int))) (List.drop (1 : Nat) (List.drop (4 : Nat) s)))) - (5 : Nat) * g ∧ nilB = [] ∧ (0 : Int) = (0 : Int) ∧ List.drop (1 : Nat) (List.drop ((5 : Nat) * g) (List.drop (4 : Nat) (List.drop (Int.toNat (List.getD (List.take (1 : Nat) (List.drop (4 : Nat) s)) (0 : Nat) (0 : Int))) (List.drop (1 : Nat) (List.drop (4 : Nat) s))))) = List.drop ((5 : Nat) * g') (List.drop (4 : Nat) (List.drop (Int.toNat (List.getD (List.take (1 : Nat) (List.drop (4 : Nat) s)) (0 : Nat) (0 : Int))) (List.drop (1 : Nat) (List.drop (4 : Nat) s)))) ∧ bytesOf (List.take (Int.toNat (List.getD (List.take (1 : Nat) (List.drop (4 : Nat) s)) (0 : Nat) (0 : Int))) (List.drop (1 : Nat) (List.drop (4 : Nat) s))) = bytesOf (List.take (Int.toNat (List.getD (List.take (1 : Nat) (List.drop (4 : Nat) s)) (0 : Nat) (0 : Int))) (List.drop (1 : Nat) (List.drop (4 : Nat) s))) ∧ number (List.take (4 : Nat) (List.drop (Int.toNat (List.getD (List.take (1 : Nat) (List.drop (4 : Nat) s)) (0 : Nat) (0 : Int))) (List.drop (1 : Nat) (List.drop (4 : Nat) s)))) = number (List.take (4 : Nat) (List.drop (Int.toNat (List.getD (List.take (1 : Nat) (List.drop (4 : Nat) s)) (0 : Nat) (0 : Int))) (List.drop (1 : Nat) (List.drop (4 : Nat) s)))) ∧ chks (List.drop (4 : Nat) (List.drop (Int.toNat (List.getD (List.take (1 : Nat) (List.drop (4 : Nat) s)) (0 : Nat) (0 : Int))) (List.drop (1 : Nat) (List.drop (4 : Nat) s)))) g ++ [(0 : Int)] = chks (List.drop (4 : Nat) (List.drop (Int.toNat (List.getD (List.take (1 : Nat) (List.drop (4 : Nat) s)) (0 : Nat) (0 : Int))) (List.drop (1 : Nat) (List.drop (4 : Nat) s)))) g' ∧ True)) (splitB (decide ((↑(List.length (List.drop (1 : Nat) (List.drop ((5 : Nat) * g) (List.drop (4 : Nat) (List.drop (Int.toNat (List.getD (List.take (1 : Nat) (List.drop (4 : Nat) s)) (0 : Nat) (0 : Int))) (List.drop (1 : Nat) (List.drop (4 : Nat) s))))))) : Int) < (4 : Int))) ([] = Prod.fst (Prod.fst (readS s)) ∧ (0 : Int) = Prod.fst (Prod.snd (Prod.fst (readS s))) ∧ Prod.snd (Prod.snd (Prod.fst (readS s))) = [] ∧ (28 : Int) = Prod.snd (readS s) ∧ True) (((0 : Int) ≤ (0 : Int) ∧ (0 : Int) ≤ (4 : Int) ∧ (4 : Int) ≤ (↑(List.length (List.drop (1 : Nat) (List.drop ((5 : Nat) * g) (List.drop (4 : Nat) (List.drop (Int.toNat (List.getD (List.take (1 : Nat) (List.drop (4 : Nat) s)) (0 : Nat) (0 : Int))) (List.drop (1 : Nat) (List.drop (4 : Nat) s))))))) : Int)) ∧ ((0 : Int) ≤ (4 : Int) ∧ (4 : Int) ≤ (↑(List.length (List.drop (1 : Nat) (List.drop ((5 : Nat) * g) (List.drop (4 : Nat) (List.drop (Int.toNat (List.getD (List.take (1 : Nat) (List.drop (4 : Nat) s)) (0 : Nat) (0 : Int))) (List.drop (1 : Nat) (List.drop (4 : Nat) s))))))) : Int) ∧ (↑(List.length (List.drop (1 : Nat) (List.drop ((5 : Nat) * g) (List.drop (4 : Nat) (List.drop (Int.toNat (List.getD (List.take (1 : Nat) (List.drop (4 : Nat) s)) (0 : Nat) (0 : Int))) (List.drop (1 : Nat) (List.drop (4 : Nat) s))))))) : Int) ≤ (↑(List.length (List.drop (1 : Nat) (List.drop ((5 : Nat) * g) (List.drop (4 : Nat) (List.drop (Int.toNat (List.getD (List.take (1 : Nat) (List.drop (4 : Nat) s)) (0 : Nat) (0 : Int))) (List.drop (1 : Nat) (List.drop (4 : Nat) s))))))) : Int)) ∧ ((0 : Int) ≤ (0 : Int) ∧ (0 : Int) < (↑(List.length (List.take (1 : Nat) (List.drop ((5 : Nat) * g) (List.drop (4 : Nat) (List.drop (Int.toNat (List.getD (List.take (1 : Nat) (List.drop (4 : Nat) s)) (0 : Nat) (0 : Int))) (List.drop (1 : Nat) (List.drop (4 : Nat) s))))))) : Int)) ∧ room ((1 : Nat) + List.length (List.take (4 : Nat) (List.drop (1 : Nat) (List.drop ((5 : Nat) * g) (List.drop (4 : Nat) (List.drop (Int.toNat (List.getD (List.take (1 : Nat) (List.drop (4 : Nat) s)) (0 : Nat) (0 : Int))) (List.drop (1 : Nat) (List.drop (4 : Nat) s)))))))) (1 : Nat) ∧ (5 : Nat) ≤ List.length ([List.getD (List.take (1 : Nat) (List.drop ((5 : Nat) * g) (List.drop (4 : Nat) (List.drop (Int.toNat (List.getD (List.take (1 : Nat) (List.drop (4 : Nat) s)) (0 : Nat) (0 : Int))) (List.drop (1 : Nat) (List.drop (4 : Nat) s)))))) (0 : Nat) (0 : Int)] ++ List.take (4 : Nat) (List.drop (1 : Nat) (List.drop ((5 : Nat) * g) (List.drop (4 : Nat) (List.drop (Int.toNat (List.getD (List.take (1 : Nat) (List.drop (4 : Nat) s)) (0 : Nat) (0 : Int))) (List.drop (1 : Nat) (List.drop (4 : Nat) s))))))) ∧ List.length (List.take (5 : Nat) ([List.getD (List.take (1 : Nat) (List.drop ((5 : Nat) * g) (List.drop (4 : Nat) (List.drop (Int.toNat (List.getD (List.take (1 : Nat) (List.drop (4 : Nat) s)) (0 : Nat) (0 : Int))) (List.drop (1 : Nat) (List.drop (4 : Nat) s)))))) (0 : Nat) (0 : Int)] ++ List.take (4 : Nat) (List.drop (1 : Nat) (List.drop ((5 : Nat) * g) (List.drop (4 : Nat) (List.drop (Int.toNat (List.getD (List.take (1 : Nat) (List.drop (4 : Nat) s)) (0 : Nat) (0 : Int))) (List.drop (1 : Nat) (List.drop (4 : Nat) s)))))))) = (5 : Nat) ∧ ((0 : Int) ≤ (0 : Int) ∧ (0 : Int) ≤ (2 : Int) ∧ (2 : Int) ≤ (↑(List.length (List.take (4 : Nat) (List.drop (1 : Nat) (List.drop ((5 : Nat) * g) (List.drop (4 : Nat) (List.drop (Int.toNat (List.getD (List.take (1 : Nat) (List.drop (4 : Nat) s)) (0 : Nat) (0 : Int))) (List.drop (1 : Nat) (List.drop (4 : Nat) s)))))))) : Int)) ∧ (List.length (List.take (2 : Nat) (List.take (4 : Nat) (List.drop (1 : Nat) (List.drop ((5 : Nat) * g) (List.drop (4 : Nat) (List.drop (Int.toNat (List.getD (List.take (1 : Nat) (List.drop (4 : Nat) s)) (0 : Nat) (0 : Int))) (List.drop (1 : Nat) (List.drop (4 : Nat) s)))))))) ≤ (4 : Nat) ∧ Bytes (List.take (2 : Nat) (List.take (4 : Nat) (List.drop (1 : Nat) (List.drop ((5 : Nat) * g) (List.drop (4 : Nat) (List.drop (Int.toNat (List.getD (List.take (1 : Nat) (List.drop (4 : Nat) s)) (0 : Nat) (0 : Int))) (List.drop (1 : Nat) (List.drop (4 : Nat) s))))))))) ∧ (((0 : Int) ≤ (↑(List.length (chks (List.drop (4 : Nat) (List.drop (Int.toNat (List.getD (List.take (1 : Nat) (List.drop (4 : Nat) s)) (0 : Nat) (0 : Int))) (List.drop (1 : Nat) (List.drop (4 : Nat) s)))) g)) : Int) ∧ (↑(List.length (chks (List.drop (4 : Nat) (List.drop (Int.toNat (List.getD (List.take (1 : Nat) (List.drop (4 : Nat) s)) (0 : Nat) (0 : Int))) (List.drop (1 : Nat) (List.drop (4 : Nat) s)))) g)) : Int) ≤ (1000000 : Int)) ∧ (0 : Int) ≤ number (List.take (2 : Nat) (List.take (4 : Nat) (List.drop (1 : Nat) (List.drop ((5 : Nat) * g) (List.drop (4 : Nat) (List.drop (Int.toNat (List.getD (List.take (1 : Nat) (List.drop (4 : Nat) s)) (0 : Nat) (0 : Int))) (List.drop (1 : Nat) (List.drop (4 : Nat) s)))))))) ∧ number (List.take (2 : Nat) (List.take (4 : Nat) (List.drop (1 : Nat) (List.drop ((5 : Nat) * g) (List.drop (4 : Nat) (List.drop (Int.toNat (List.getD (List.take (1 : Nat) (List.drop (4 : Nat) s)) (0 : Nat) (0 : Int))) (List.drop (1 : Nat) (List.drop (4 : Nat) s)))))))) ≤ (1000000 : Int)) ∧ splitB (List.getD (List.take (1 : Nat) (List.drop ((5 : Nat) * g) (List.drop (4 : Nat) (List.drop (Int.toNat (List.getD (List.take (1 : Nat) (List.drop (4 : Nat) s)) (0 : Nat) (0 : Int))) (List.drop (1 : Nat) (List.drop (4 : Nat) s)))))) (0 : Nat) (0 : Int) == (69 : Int)) ((List.length (chks (List.drop (4 : Nat) (List.drop (Int.toNat (List.getD (List.take (1 : Nat) (List.drop (4 : Nat) s)) (0 : Nat) (0 : Int))) (List.drop (1 : Nat) (List.drop (4 : Nat) s)))) g) ≤ (1000000 : Nat) ∧ ∀ (x : Int), x ∈ chks (List.drop (4 : Nat) (List.drop (Int.toNat (List.getD (List.take (1 : Nat) (List.drop (4 : Nat) s)) (0 : Nat) (0 : Int))) (List.drop (1 : Nat) (List.drop (4 : Nat) s)))) g → (0 : Int) ≤ x ∧ x ≤ (65535 : Int)) ∧ splitB (whenE (!eqT (Ty.arr (5 : Nat) (Ty.int IntKind.u8)) (List.take (5 : Nat) ([List.getD (List.take (1 : Nat) (List.drop ((5 : Nat) * g) (List.drop (4 : Nat) (List.drop (Int.toNat (List.getD (List.take (1 : Nat) (List.drop (4 : Nat) s)) (0 : Nat) (0 : Int))) (List.drop (1 : Nat) (List.drop (4 : Nat) s)))))) (0 : Nat) (0 : Int)] ++ List.take (4 : Nat) (List.drop (1 : Nat) (List.drop ((5 : Nat) * g) (List.drop (4 : Nat) (List.drop (Int.toNat (List.getD (List.take (1 : Nat) (List.drop (4 : Nat) s)) (0 : Nat) (0 : Int))) (List.drop (1 : Nat) (List.drop (4 : Nat) s)))))))) (tlast (chks (List.drop (4 : Nat) (List.drop (Int.toNat (List.getD (List.take (1 : Nat) (List.drop (4 : Nat) s)) (0 : Nat) (0 : Int))) (List.drop (1 : Nat) (List.drop (4 : Nat) s)))) g))) (27 : Int) != (0 : Int)) ([] = Prod.fst (Prod.fst (readS s)) ∧ (0 : Int) = Prod.fst (Prod.snd (Prod.fst (readS s))) ∧ Prod.snd (Prod.snd (Prod.fst (readS s))) = [] ∧ whenE (!eqT (Ty.arr (5 : Nat) (Ty.int IntKind.u8)) (List.take (5 : Nat) ([List.getD (List.take (1 : Nat) (List.drop ((5 : Nat) * g) (List.drop (4 : Nat) (List.drop (Int.toNat (List.getD (List.take (1 : Nat) (List.drop (4 : Nat) s)) (0 : Nat) (0 : Int))) (List.drop (1 : Nat) (List.drop (4 : Nat) s)))))) (0 : Nat) (0 : Int)] ++ List.take (4 : Nat) (List.drop (1 : Nat) (List.drop ((5 : Nat) * g) (List.drop (4 : Nat) (List.drop (Int.toNat (List.getD (List.take (1 : Nat) (List.drop (4 : Nat) s)) (0 : Nat) (0 : Int))) (List.drop (1 : Nat) (List.drop (4 : Nat) s)))))))) (tlast (chks (List.drop (4 : Nat) (List.drop (Int.toNat (List.getD (List.take (1 : Nat) (List.drop (4 : Nat) s)) (0 : Nat) (0 : Int))) (List.drop (1 : Nat) (List.drop (4 : Nat) s)))) g))) (27 : Int) = Prod.snd (readS s) ∧ True) (splitB (List.getD (List.take (1 : Nat) (List.drop ((5 : Nat) * g) (List.drop (4 : Nat) (List.drop (Int.toNat (List.getD (List.take (1 : Nat) (List.drop (4 : Nat) s)) (0 : Nat) (0 : Int))) (List.drop (1 : Nat) (List.drop (4 : Nat) s)))))) (0 : Nat) (0 : Int) == (69 : Int)) (List.length (chks (List.drop (4 : Nat) (List.drop (Int.toNat (List.getD (List.take (1 : Nat) (List.drop (4 : Nat) s)) (0 : Nat) (0 : Int))) (List.drop (1 : Nat) (List.drop (4 : Nat) s)))) g) ≤ (1000000 : Nat) ∧ (2 : Nat) ≤ (1000000000 : Nat) ∧ splitB (first [whenE (decide ((0 : Int) < (↑(List.length (List.drop (4 : Nat) (List.drop (1 : Nat) (List.drop ((5 : Nat) * g) (List.drop (4 : Nat) (List.drop (Int.toNat (List.getD (List.take (1 : Nat) (List.drop (4 : Nat) s)) (0 : Nat) (0 : Int))) (List.drop (1 : Nat) (List.drop (4 : Nat) s)))))))) : Int))) (23 : Int), checkReel (bytesOf (List.take (Int.toNat (List.getD (List.take (1 : Nat) (List.drop (4 : Nat) s)) (0 : Nat) (0 : Int))) (List.drop (1 : Nat) (List.drop (4 : Nat) s)))) (number (List.take (4 : Nat) (List.drop (Int.toNat (List.getD (List.take (1 : Nat) (List.drop (4 : Nat) s)) (0 : Nat) (0 : Int))) (List.drop (1 : Nat) (List.drop (4 : Nat) s))))) (chks (List.drop (4 : Nat) (List.drop (Int.toNat (List.getD (List.take (1 : Nat) (List.drop (4 : Nat) s)) (0 : Nat) (0 : Int))) (List.drop (1 : Nat) (List.drop (4 : Nat) s)))) g)] != (0 : Int)) ([] = Prod.fst (Prod.fst (readS s)) ∧ (0 : Int) = Prod.fst (Prod.snd (Prod.fst (readS s))) ∧ Prod.snd (Prod.snd (Prod.fst (readS s))) = [] ∧ first [whenE (decide ((0 : Int) < (↑(List.length (List.drop (4 : Nat) (List.drop (1 : Nat) (List.drop ((5 : Nat) * g) (List.drop (4 : Nat) (List.drop (Int.toNat (List.getD (List.take (1 : Nat) (List.drop (4 : Nat) s)) (0 : Nat) (0 : Int))) (List.drop (1 : Nat) (List.drop (4 : Nat) s)))))))) : Int))) (23 : Int), checkReel (bytesOf (List.take (Int.toNat (List.getD (List.take (1 : Nat) (List.drop (4 : Nat) s)) (0 : Nat) (0 : Int))) (List.drop (1 : Nat) (List.drop (4 : Nat) s)))) (number (List.take (4 : Nat) (List.drop (Int.toNat (List.getD (List.take (1 : Nat) (List.drop (4 : Nat) s)) (0 : Nat) (0 : Int))) (List.drop (1 : Nat) (List.drop (4 : Nat) s))))) (chks (List.drop (4 : Nat) (List.drop (Int.toNat (List.getD (List.take (1 : Nat) (List.drop (4 : Nat) s)) (0 : Nat) (0 : Int))) (List.drop (1 : Nat) (List.drop (4 : Nat) s)))) g)] = Prod.snd (readS s) ∧ True) (bytesOf (List.take (Int.toNat (List.getD (List.take (1 : Nat) (List.drop (4 : Nat) s)) (0 : Nat) (0 : Int))) (List.drop (1 : Nat) (List.drop (4 : Nat) s))) = Prod.fst (Prod.fst (readS s)) ∧ number (List.take (4 : Nat) (List.drop (Int.toNat (List.getD (List.take (1 : Nat) (List.drop (4 : Nat) s)) (0 : Nat) (0 : Int))) (List.drop (1 : Nat) (List.drop (4 : Nat) s)))) = Prod.fst (Prod.snd (Prod.fst (readS s))) ∧ chks (List.drop (4 : Nat) (List.drop (Int.toNat (List.getD (List.take (1 : Nat) (List.drop (4 : Nat) s)) (0 : Nat) (0 : Int))) (List.drop (1 : Nat) (List.drop (4 : Nat) s)))) g = Prod.snd (Prod.snd (Prod.fst (readS s))) ∧ (0 : Int) = Prod.snd (readS s) ∧ True)) (room (List.length (chks (List.drop (4 : Nat) (List.drop (Int.toNat (List.getD (List.take (1 : Nat) (List.drop (4 : Nat) s)) (0 : Nat) (0 : Int))) (List.drop (1 : Nat) (List.drop (4 : Nat) s)))) g) + (1 : Nat)) (8 : Nat) ∧ ∃ (g' : Nat), ((5 : Nat) * g' ≤ List.length (List.drop (4 : Nat) (List.drop (Int.toNat (List.getD (List.take (1 : Nat) (List.drop (4 : Nat) s)) (0 : Nat) (0 : Int))) (List.drop (1 : Nat) (List.drop (4 : Nat) s)))) ∧ g' ≤ (256 : Nat) ∧ ∀ (n : Nat), rdAll (n + g') (List.drop (4 : Nat) (List.drop (Int.toNat (List.getD (List.take (1 : Nat) (List.drop (4 : Nat) s)) (0 : Nat) (0 : Int))) (List.drop (1 : Nat) (List.drop (4 : Nat) s)))) [] = rdAll n (List.drop ((5 : Nat) * g') (List.drop (4 : Nat) (List.drop (Int.toNat (List.getD (List.take (1 : Nat) (List.drop (4 : Nat) s)) (0 : Nat) (0 : Int))) (List.drop (1 : Nat) (List.drop (4 : Nat) s))))) (chks (List.drop (4 : Nat) (List.drop (Int.toNat (List.getD (List.take (1 : Nat) (List.drop (4 : Nat) s)) (0 : Nat) (0 : Int))) (List.drop (1 : Nat) (List.drop (4 : Nat) s)))) g')) ∧ List.length (List.drop (4 : Nat) (List.drop (Int.toNat (List.getD (List.take (1 : Nat) (List.drop (4 : Nat) s)) (0 : Nat) (0 : Int))) (List.drop (1 : Nat) (List.drop (4 : Nat) s)))) - (5 : Nat) * g' < List.length (List.drop (4 : Nat) (List.drop (Int.toNat (List.getD (List.take (1 : Nat) (List.drop (4 : Nat) s)) (0 : Nat) (0 : Int))) (List.drop (1 : Nat) (List.drop (4 : Nat) s)))) - (5 : Nat) * g ∧ nilB = [] ∧ (0 : Int) = (0 : Int) ∧ List.drop (4 : Nat) (List.drop (1 : Nat) (List.drop ((5 : Nat) * g) (List.drop (4 : Nat) (List.drop (Int.toNat (List.getD (List.take (1 : Nat) (List.drop (4 : Nat) s)) (0 : Nat) (0 : Int))) (List.drop (1 : Nat) (List.drop (4 : Nat) s)))))) = List.drop ((5 : Nat) * g') (List.drop (4 : Nat) (List.drop (Int.toNat (List.getD (List.take (1 : Nat) (List.drop (4 : Nat) s)) (0 : Nat) (0 : Int))) (List.drop (1 : Nat) (List.drop (4 : Nat) s)))) ∧ bytesOf (List.take (Int.toNat (List.getD (List.take (1 : Nat) (List.drop (4 : Nat) s)) (0 : Nat) (0 : Int))) (List.drop (1 : Nat) (List.drop (4 : Nat) s))) = bytesOf (List.take (Int.toNat (List.getD (List.take (1 : Nat) (List.drop (4 : Nat) s)) (0 : Nat) (0 : Int))) (List.drop (1 : Nat) (List.drop (4 : Nat) s))) ∧ number (List.take (4 : Nat) (List.drop (Int.toNat (List.getD (List.take (1 : Nat) (List.drop (4 : Nat) s)) (0 : Nat) (0 : Int))) (List.drop (1 : Nat) (List.drop (4 : Nat) s)))) = number (List.take (4 : Nat) (List.drop (Int.toNat (List.getD (List.take (1 : Nat) (List.drop (4 : Nat) s)) (0 : Nat) (0 : Int))) (List.drop (1 : Nat) (List.drop (4 : Nat) s)))) ∧ chks (List.drop (4 : Nat) (List.drop (Int.toNat (List.getD (List.take (1 : Nat) (List.drop (4 : Nat) s)) (0 : Nat) (0 : Int))) (List.drop (1 : Nat) (List.drop (4 : Nat) s)))) g ++ [number (List.take (2 : Nat) (List.take (4 : Nat) (List.drop (1 : Nat) (List.drop ((5 : Nat) * g) (List.drop (4 : Nat) (List.drop (Int.toNat (List.getD (List.take (1 : Nat) (List.drop (4 : Nat) s)) (0 : Nat) (0 : Int))) (List.drop (1 : Nat) (List.drop (4 : Nat) s))))))))] = chks (List.drop (4 : Nat) (List.drop (Int.toNat (List.getD (List.take (1 : Nat) (List.drop (4 : Nat) s)) (0 : Nat) (0 : Int))) (List.drop (1 : Nat) (List.drop (4 : Nat) s)))) g' ∧ True))) (splitB (whenE (!eqT (Ty.arr (5 : Nat) (Ty.int IntKind.u8)) (List.take (5 : Nat) ([List.getD (List.take (1 : Nat) (List.drop ((5 : Nat) * g) (List.drop (4 : Nat) (List.drop (Int.toNat (List.getD (List.take (1 : Nat) (List.drop (4 : Nat) s)) (0 : Nat) (0 : Int))) (List.drop (1 : Nat) (List.drop (4 : Nat) s)))))) (0 : Nat) (0 : Int)] ++ List.take (4 : Nat) (List.drop (1 : Nat) (List.drop ((5 : Nat) * g) (List.drop (4 : Nat) (List.drop (Int.toNat (List.getD (List.take (1 : Nat) (List.drop (4 : Nat) s)) (0 : Nat) (0 : Int))) (List.drop (1 : Nat) (List.drop (4 : Nat) s)))))))) (tframe (↑(List.length (chks (List.drop (4 : Nat) (List.drop (Int.toNat (List.getD (List.take (1 : Nat) (List.drop (4 : Nat) s)) (0 : Nat) (0 : Int))) (List.drop (1 : Nat) (List.drop (4 : Nat) s)))) g)) : Int) (number (List.take (2 : Nat) (List.take (4 : Nat) (List.drop (1 : Nat) (List.drop ((5 : Nat) * g) (List.drop (4 : Nat) (List.drop (Int.toNat (List.getD (List.take (1 : Nat) (List.drop (4 : Nat) s)) (0 : Nat) (0 : Int))) (List.drop (1 : Nat) (List.drop (4 : Nat) s))))))))))) (27 : Int) != (0 : Int)) ([] = Prod.fst (Prod.fst (readS s)) ∧ (0 : Int) = Prod.fst (Prod.snd (Prod.fst (readS s))) ∧ Prod.snd (Prod.snd (Prod.fst (readS s))) = [] ∧ whenE (!eqT (Ty.arr (5 : Nat) (Ty.int IntKind.u8)) (List.take (5 : Nat) ([List.getD (List.take (1 : Nat) (List.drop ((5 : Nat) * g) (List.drop (4 : Nat) (List.drop (Int.toNat (List.getD (List.take (1 : Nat) (List.drop (4 : Nat) s)) (0 : Nat) (0 : Int))) (List.drop (1 : Nat) (List.drop (4 : Nat) s)))))) (0 : Nat) (0 : Int)] ++ List.take (4 : Nat) (List.drop (1 : Nat) (List.drop ((5 : Nat) * g) (List.drop (4 : Nat) (List.drop (Int.toNat (List.getD (List.take (1 : Nat) (List.drop (4 : Nat) s)) (0 : Nat) (0 : Int))) (List.drop (1 : Nat) (List.drop (4 : Nat) s)))))))) (tframe (↑(List.length (chks (List.drop (4 : Nat) (List.drop (Int.toNat (List.getD (List.take (1 : Nat) (List.drop (4 : Nat) s)) (0 : Nat) (0 : Int))) (List.drop (1 : Nat) (List.drop (4 : Nat) s)))) g)) : Int) (number (List.take (2 : Nat) (List.take (4 : Nat) (List.drop (1 : Nat) (List.drop ((5 : Nat) * g) (List.drop (4 : Nat) (List.drop (Int.toNat (List.getD (List.take (1 : Nat) (List.drop (4 : Nat) s)) (0 : Nat) (0 : Int))) (List.drop (1 : Nat) (List.drop (4 : Nat) s))))))))))) (27 : Int) = Prod.snd (readS s) ∧ True) (splitB (List.getD (List.take (1 : Nat) (List.drop ((5 : Nat) * g) (List.drop (4 : Nat) (List.drop (Int.toNat (List.getD (List.take (1 : Nat) (List.drop (4 : Nat) s)) (0 : Nat) (0 : Int))) (List.drop (1 : Nat) (List.drop (4 : Nat) s)))))) (0 : Nat) (0 : Int) == (69 : Int)) (List.length (chks (List.drop (4 : Nat) (List.drop (Int.toNat (List.getD (List.take (1 : Nat) (List.drop (4 : Nat) s)) (0 : Nat) (0 : Int))) (List.drop (1 : Nat) (List.drop (4 : Nat) s)))) g) ≤ (1000000 : Nat) ∧ (2 : Nat) ≤ (1000000000 : Nat) ∧ splitB (first [whenE (decide ((0 : Int) < (↑(List.length (List.drop (4 : Nat) (List.drop (1 : Nat) (List.drop ((5 : Nat) * g) (List.drop (4 : Nat) (List.drop (Int.toNat (List.getD (List.take (1 : Nat) (List.drop (4 : Nat) s)) (0 : Nat) (0 : Int))) (List.drop (1 : Nat) (List.drop (4 : Nat) s)))))))) : Int))) (23 : Int), checkReel (bytesOf (List.take (Int.toNat (List.getD (List.take (1 : Nat) (List.drop (4 : Nat) s)) (0 : Nat) (0 : Int))) (List.drop (1 : Nat) (List.drop (4 : Nat) s)))) (number (List.take (4 : Nat) (List.drop (Int.toNat (List.getD (List.take (1 : Nat) (List.drop (4 : Nat) s)) (0 : Nat) (0 : Int))) (List.drop (1 : Nat) (List.drop (4 : Nat) s))))) (chks (List.drop (4 : Nat) (List.drop (Int.toNat (List.getD (List.take (1 : Nat) (List.drop (4 : Nat) s)) (0 : Nat) (0 : Int))) (List.drop (1 : Nat) (List.drop (4 : Nat) s)))) g)] != (0 : Int)) ([] = Prod.fst (Prod.fst (readS s)) ∧ (0 : Int) = Prod.fst (Prod.snd (Prod.fst (readS s))) ∧ Prod.snd (Prod.snd (Prod.fst (readS s))) = [] ∧ first [whenE (decide ((0 : Int) < (↑(List.length (List.drop (4 : Nat) (List.drop (1 : Nat) (List.drop ((5 : Nat) * g) (List.drop (4 : Nat) (List.drop (Int.toNat (List.getD (List.take (1 : Nat) (List.drop (4 : Nat) s)) (0 : Nat) (0 : Int))) (List.drop (1 : Nat) (List.drop (4 : Nat) s)))))))) : Int))) (23 : Int), checkReel (bytesOf (List.take (Int.toNat (List.getD (List.take (1 : Nat) (List.drop (4 : Nat) s)) (0 : Nat) (0 : Int))) (List.drop (1 : Nat) (List.drop (4 : Nat) s)))) (number (List.take (4 : Nat) (List.drop (Int.toNat (List.getD (List.take (1 : Nat) (List.drop (4 : Nat) s)) (0 : Nat) (0 : Int))) (List.drop (1 : Nat) (List.drop (4 : Nat) s))))) (chks (List.drop (4 : Nat) (List.drop (Int.toNat (List.getD (List.take (1 : Nat) (List.drop (4 : Nat) s)) (0 : Nat) (0 : Int))) (List.drop (1 : Nat) (List.drop (4 : Nat) s)))) g)] = Prod.snd (readS s) ∧ True) (bytesOf (List.take (Int.toNat (List.getD (List.take (1 : Nat) (List.drop (4 : Nat) s)) (0 : Nat) (0 : Int))) (List.drop (1 : Nat) (List.drop (4 : Nat) s))) = Prod.fst (Prod.fst (readS s)) ∧ number (List.take (4 : Nat) (List.drop (Int.toNat (List.getD (List.take (1 : Nat) (List.drop (4 : Nat) s)) (0 : Nat) (0 : Int))) (List.drop (1 : Nat) (List.drop (4 : Nat) s)))) = Prod.fst (Prod.snd (Prod.fst (readS s))) ∧ chks (List.drop (4 : Nat) (List.drop (Int.toNat (List.getD (List.take (1 : Nat) (List.drop (4 : Nat) s)) (0 : Nat) (0 : Int))) (List.drop (1 : Nat) (List.drop (4 : Nat) s)))) g = Prod.snd (Prod.snd (Prod.fst (readS s))) ∧ (0 : Int) = Prod.snd (readS s) ∧ True)) (room (List.length (chks (List.drop (4 : Nat) (List.drop (Int.toNat (List.getD (List.take (1 : Nat) (List.drop (4 : Nat) s)) (0 : Nat) (0 : Int))) (List.drop (1 : Nat) (List.drop (4 : Nat) s)))) g) + (1 : Nat)) (8 : Nat) ∧ ∃ (g' : Nat), ((5 : Nat) * g' ≤ List.length (List.drop (4 : Nat) (List.drop (Int.toNat (List.getD (List.take (1 : Nat) (List.drop (4 : Nat) s)) (0 : Nat) (0 : Int))) (List.drop (1 : Nat) (List.drop (4 : Nat) s)))) ∧ g' ≤ (256 : Nat) ∧ ∀ (n : Nat), rdAll (n + g') (List.drop (4 : Nat) (List.drop (Int.toNat (List.getD (List.take (1 : Nat) (List.drop (4 : Nat) s)) (0 : Nat) (0 : Int))) (List.drop (1 : Nat) (List.drop (4 : Nat) s)))) [] = rdAll n (List.drop ((5 : Nat) * g') (List.drop (4 : Nat) (List.drop (Int.toNat (List.getD (List.take (1 : Nat) (List.drop (4 : Nat) s)) (0 : Nat) (0 : Int))) (List.drop (1 : Nat) (List.drop (4 : Nat) s))))) (chks (List.drop (4 : Nat) (List.drop (Int.toNat (List.getD (List.take (1 : Nat) (List.drop (4 : Nat) s)) (0 : Nat) (0 : Int))) (List.drop (1 : Nat) (List.drop (4 : Nat) s)))) g')) ∧ List.length (List.drop (4 : Nat) (List.drop (Int.toNat (List.getD (List.take (1 : Nat) (List.drop (4 : Nat) s)) (0 : Nat) (0 : Int))) (List.drop (1 : Nat) (List.drop (4 : Nat) s)))) - (5 : Nat) * g' < List.length (List.drop (4 : Nat) (List.drop (Int.toNat (List.getD (List.take (1 : Nat) (List.drop (4 : Nat) s)) (0 : Nat) (0 : Int))) (List.drop (1 : Nat) (List.drop (4 : Nat) s)))) - (5 : Nat) * g ∧ nilB = [] ∧ (0 : Int) = (0 : Int) ∧ List.drop (4 : Nat) (List.drop (1 : Nat) (List.drop ((5 : Nat) * g) (List.drop (4 : Nat) (List.drop (Int.toNat (List.getD (List.take (1 : Nat) (List.drop (4 : Nat) s)) (0 : Nat) (0 : Int))) (List.drop (1 : Nat) (List.drop (4 : Nat) s)))))) = List.drop ((5 : Nat) * g') (List.drop (4 : Nat) (List.drop (Int.toNat (List.getD (List.take (1 : Nat) (List.drop (4 : Nat) s)) (0 : Nat) (0 : Int))) (List.drop (1 : Nat) (List.drop (4 : Nat) s)))) ∧ bytesOf (List.take (Int.toNat (List.getD (List.take (1 : Nat) (List.drop (4 : Nat) s)) (0 : Nat) (0 : Int))) (List.drop (1 : Nat) (List.drop (4 : Nat) s))) = bytesOf (List.take (Int.toNat (List.getD (List.take (1 : Nat) (List.drop (4 : Nat) s)) (0 : Nat) (0 : Int))) (List.drop (1 : Nat) (List.drop (4 : Nat) s))) ∧ number (List.take (4 : Nat) (List.drop (Int.toNat (List.getD (List.take (1 : Nat) (List.drop (4 : Nat) s)) (0 : Nat) (0 : Int))) (List.drop (1 : Nat) (List.drop (4 : Nat) s)))) = number (List.take (4 : Nat) (List.drop (Int.toNat (List.getD (List.take (1 : Nat) (List.drop (4 : Nat) s)) (0 : Nat) (0 : Int))) (List.drop (1 : Nat) (List.drop (4 : Nat) s)))) ∧ chks (List.drop (4 : Nat) (List.drop (Int.toNat (List.getD (List.take (1 : Nat) (List.drop (4 : Nat) s)) (0 : Nat) (0 : Int))) (List.drop (1 : Nat) (List.drop (4 : Nat) s)))) g ++ [number (List.take (2 : Nat) (List.take (4 : Nat) (List.drop (1 : Nat) (List.drop ((5 : Nat) * g) (List.drop (4 : Nat) (List.drop (Int.toNat (List.getD (List.take (1 : Nat) (List.drop (4 : Nat) s)) (0 : Nat) (0 : Int))) (List.drop (1 : Nat) (List.drop (4 : Nat) s))))))))] = chks (List.drop (4 : Nat) (List.drop (Int.toNat (List.getD (List.take (1 : Nat) (List.drop (4 : Nat) s)) (0 : Nat) (0 : Int))) (List.drop (1 : Nat) (List.drop (4 : Nat) s)))) g' ∧ True)))))))))))))) := by
  kernel_rfl
end Go.Sx

/- Contracts: Read. -/
namespace Go.Sx
open U

theorem take1 (l : List Int) : List.getD (List.take 1 l) 0 0 = List.getD l 0 0 := by cases l <;> rfl

theorem chks_len (r : List Int) (g : Nat) : (chks r g).length = g := by simp [chks]
theorem chks_succ (r : List Int) (g : Nat) : chks r (g + 1) = chks r g ++ [chk r g] := by simp [chks, List.range_succ]
theorem chks_w {r : List Int} (hb : Bytes r) (g : Nat) : W16 (chks r g) := by
  intro x hx
  obtain ⟨j, _, rfl⟩ := List.mem_map.1 hx
  have := number_bd 2 (((r.drop (5 * j)).drop 1).take 2) (byTake (byDrop (byDrop hb _) _) _) (by simp; omega)
  have e : (256 : Int) ^ 2 = 65536 := by decide
  rw [e] at this
  unfold chk
  omega

theorem getD_head {l : List Int} (h : 0 < l.length) : l = l.getD 0 0 :: l.drop 1 := by
  cases l with
  | nil => simp at h
  | cons a t => rfl

theorem take5 {l : List Int} (h : 5 ≤ l.length) : List.take 5 ([List.getD l 0 0] ++ List.take 4 (List.drop 1 l)) = List.take 5 l := by
  cases l with
  | nil => simp at h
  | cons a t =>
    have h4 : 4 ≤ t.length := by simpa using h
    simp [List.take_take]

theorem recErr_zero {k : Int} {n : Nat} (h : recErr k n = 0) : (k = 69 ∨ k = 70) ∧ (k = 69 ∨ n ≠ 256) := by
  have hz := (first_zero_iff _).1 h
  have h1 := (whenE_zero (e := 1) (by decide)).1 (hz (whenE (!(k == 69) && (k != 70)) 1) (by simp))
  have h2 := (whenE_zero (e := 5) (by decide)).1 (hz (whenE (!(k == 69) && ((n : Int) == 256)) 5) (by simp))
  by_cases e : k = 69
  · exact ⟨.inl e, .inl e⟩
  · have e' : (k == 69) = false := by simp [e]
    rw [e'] at h1 h2
    simp at h1 h2
    exact ⟨.inr h1, .inr (by omega)⟩

theorem rdRec_none {s l : List Int} (h : s.length < 1) : rdRec s l = (28, false, 0) := by unfold rdRec; rw [if_pos h]
theorem rdRec_bad {s l : List Int} (h : ¬ s.length < 1) (he : recErr (s.getD 0 0) l.length ≠ 0) : rdRec s l = (recErr (s.getD 0 0) l.length, false, 0) := by unfold rdRec; rw [if_neg h, if_neg he]
theorem rdRec_torn {s l : List Int} (h : ¬ s.length < 1) (he : recErr (s.getD 0 0) l.length = 0) (h5 : s.length < 5) : rdRec s l = (28, false, 0) := by unfold rdRec; rw [if_neg h, if_pos he, if_pos h5]
theorem rdRec_full {s l : List Int} (he : recErr (s.getD 0 0) l.length = 0) (h5 : ¬ s.length < 5) :
    rdRec s l = (whenE (!decide (s.take 5 = if (s.getD 0 0 == 69) = true then tlast l else tframe l.length (number ((s.drop 1).take 2)))) 27, s.getD 0 0 == 69, number ((s.drop 1).take 2)) := by
  unfold rdRec; rw [if_neg (by omega), if_pos he, if_neg h5]

theorem rdAll_stop {n : Nat} {s l : List Int} (h : (rdRec s l).1 ≠ 0) : rdAll (n + 1) s l = ((rdRec s l).1, l, s) := by rw [rdAll, if_neg h]
theorem rdAll_last {n : Nat} {s l : List Int} (h : (rdRec s l).1 = 0) (h2 : (rdRec s l).2.1 = true) : rdAll (n + 1) s l = (0, l, s.drop 5) := by rw [rdAll, if_pos h, if_pos h2]
theorem rdAll_more {n : Nat} {s l : List Int} (h : (rdRec s l).1 = 0) (h2 : (rdRec s l).2.1 = false) : rdAll (n + 1) s l = rdAll n (s.drop 5) (l ++ [(rdRec s l).2.2]) := by rw [rdAll, if_pos h, if_neg (by simp [h2])]

theorem readS_begin {s : List Int} (h : (rdBegin s).1 ≠ 0) : readS s = (([], 0, []), (rdBegin s).1) := by unfold readS; rw [if_neg h]
theorem readS_err {s : List Int} {nm : List UInt8} {f : Int} {r : List Int} (hb : rdBegin s = (0, nm, f, r)) {e : Int} {l q : List Int} (h : rdAll (s.length + 1) r [] = (e, l, q)) (he : e ≠ 0) : readS s = (([], 0, []), e) := by
  unfold readS
  rw [hb]
  simp only [if_true]
  rw [h, if_neg he]
theorem readS_bad {s : List Int} {nm : List UInt8} {f : Int} {r : List Int} (hb : rdBegin s = (0, nm, f, r)) {l q : List Int} (h : rdAll (s.length + 1) r [] = (0, l, q)) (he : first [whenE (decide (0 < q.length)) 23, checkReel nm f l] ≠ 0) :
    readS s = (([], 0, []), first [whenE (decide (0 < q.length)) 23, checkReel nm f l]) := by
  unfold readS
  rw [hb]
  simp only [if_true]
  rw [h]
  simp only [if_true]
  rw [if_neg he]
theorem readS_ok {s : List Int} {nm : List UInt8} {f : Int} {r : List Int} (hb : rdBegin s = (0, nm, f, r)) {l q : List Int} (h : rdAll (s.length + 1) r [] = (0, l, q)) (he : first [whenE (decide (0 < q.length)) 23, checkReel nm f l] = 0) :
    readS s = ((nm, f, l), 0) := by
  unfold readS
  rw [hb]
  simp only [if_true]
  rw [h]
  simp only [if_true]
  rw [if_pos he]

theorem fn23 (s : List Int) (hl : s.length ≤ 1000000) (hb : Bytes s) : Fn P1 gl1 23 [.one (.sl (.int .u8) s)] (.tup [rV (readS s).1.1 (readS s).1.2.1 (readS s).1.2.2, iV (readS s).2]) true := by
  refine fn_ofr false [(71, sp71), (73, sp73), (74, sp74), (78, sp78), (79, sp79), (121, sp121), (127, sp127), (128, sp128)] [fb75, fb76, fb126] h23 3 Proofs.Tryd.f23 ⟨so71, so73, so74, so78, so79, so121, so127, so128, trivial⟩
    ⟨⟨by kernel_rfl, by kernel_rfl, _, rfl, by kernel_rfl⟩, ⟨by kernel_rfl, by kernel_rfl, _, rfl, by kernel_rfl⟩, ⟨by kernel_rfl, by kernel_rfl, _, rfl, by kernel_rfl⟩, trivial⟩ (by kernel_rfl) rfl (by kernel_rfl) rfl rfl rfl ?_
  rw [vc23]
  simp only [splitB_iff, Bool.cond_false_right, Bool.cond_true_left, take1, decide_eq_true_eq, decide_eq_false_iff_not, List.length_take, List.length_drop, -eq_self]
  have fail : ∀ {e : Int}, (rdBegin s).1 = e → e ≠ 0 → [] = (readS s).1.1 ∧ 0 = (readS s).1.2.1 ∧ (readS s).1.2.2 = [] ∧ e = (readS s).2 ∧ True := by
    intro e h1 h2
    rw [readS_begin (by rw [h1]; exact h2), h1]
    exact ⟨rfl, rfl, rfl, rfl, trivial⟩
  refine ⟨fun h => ?_, fun h => ⟨by omega, by omega, by omega, fun h2 => ?_, fun h2 => ⟨fun h3 => ?_, fun h3 => ?_⟩⟩⟩
  · refine fail ?_ (by decide)
    unfold rdBegin; rw [if_pos (by omega)]
  · have e : ¬ List.take 4 s = [82, 69, 69, 76] := by
      rw [List.take_take, eqT_int .u8 4 _ _ (by simp; omega) rfl] at h2
      simpa using h2
    refine fail ?_ (by decide)
    unfold rdBegin; rw [if_neg (by omega), if_neg e]
  · have e : List.take 4 s = [82, 69, 69, 76] := by
      rw [List.take_take, eqT_int .u8 4 _ _ (by simp; omega) rfl] at h2
      simpa using h2
    refine fail ?_ (by decide)
    unfold rdBegin; rw [if_neg (by omega), if_pos e, if_pos (by rw [List.length_drop]; omega)]
  · have e : List.take 4 s = [82, 69, 69, 76] := by
      rw [List.take_take, eqT_int .u8 4 _ _ (by simp; omega) rfl] at h2
      simpa using h2
    have hk : 0 ≤ (List.drop 4 s).getD 0 0 ∧ (List.drop 4 s).getD 0 0 ≤ 255 := by
      have hl4 : 0 < (List.drop 4 s).length := by rw [List.length_drop]; omega
      rw [getD_of hl4]
      exact byDrop hb 4 _ (List.getElem_mem hl4)
    refine ⟨by omega, by omega, by omega, by simp only [fits]; omega, fun h4 => ?_, fun h4 => ⟨by omega, by omega, fun h5 => ?_, fun h5 => ⟨fun h6 => ?_, fun h6 => ⟨by omega, by omega, ⟨by omega, byTake (byDrop (byDrop (byDrop hb _) _) _) _⟩, fun h7 => ?_, fun h7 => ?_⟩⟩⟩⟩
    · refine fail ?_ (by decide)
      unfold rdBegin; rw [if_neg (by omega), if_pos e, if_neg (by rw [List.length_drop]; omega), if_pos (by simp only [List.length_drop]; omega)]
    · refine fail ?_ (by decide)
      unfold rdBegin; rw [if_neg (by omega), if_pos e, if_neg (by rw [List.length_drop]; omega), if_neg (by simp only [List.length_drop]; omega), if_neg]
      intro h6
      rw [Bool.and_eq_true] at h6
      rw [h6.1, h6.2] at h5
      cases h5
    all_goals
      have h5' : (plain (bytesOf (((s.drop 4).drop 1).take ((s.drop 4).getD 0 0).toNat)) && isName (bytesOf (((s.drop 4).drop 1).take ((s.drop 4).getD 0 0).toNat))) = true := by
        cases hp : plain (bytesOf (((s.drop 4).drop 1).take ((s.drop 4).getD 0 0).toNat)) <;> cases hq : isName (bytesOf (((s.drop 4).drop 1).take ((s.drop 4).getD 0 0).toNat)) <;> rw [hp, hq] at h5 <;> first | rfl | cases h5
    · refine fail ?_ (by decide)
      unfold rdBegin; rw [if_neg (by omega), if_pos e, if_neg (by rw [List.length_drop]; omega), if_neg (by simp only [List.length_drop]; omega), if_pos h5', if_pos (by simp only [List.length_drop]; omega)]
    · refine fail ?_ (by simpa using h7)
      unfold rdBegin; rw [if_neg (by omega), if_pos e, if_neg (by rw [List.length_drop]; omega), if_neg (by simp only [List.length_drop]; omega), if_pos h5', if_neg (by simp only [List.length_drop]; omega)]
    · have h7' : whenE (decide (10000000 < number ((((s.drop 4).drop 1).drop ((s.drop 4).getD 0 0).toNat).take 4))) 1 = 0 := by simpa using h7
      have hbg : rdBegin s = (0, bytesOf (((s.drop 4).drop 1).take ((s.drop 4).getD 0 0).toNat), number ((((s.drop 4).drop 1).drop ((s.drop 4).getD 0 0).toNat).take 4), (((s.drop 4).drop 1).drop ((s.drop 4).getD 0 0).toNat).drop 4) := by
        unfold rdBegin; rw [if_neg (by omega), if_pos e, if_neg (by rw [List.length_drop]; omega), if_neg (by simp only [List.length_drop]; omega), if_pos h5', if_neg (by simp only [List.length_drop]; omega), h7']
      have hrl : ((((s.drop 4).drop 1).drop ((s.drop 4).getD 0 0).toNat).drop 4).length = s.length - 4 - 1 - ((s.drop 4).getD 0 0).toNat - 4 := by simp only [List.length_drop]
      have hrb : Bytes ((((s.drop 4).drop 1).drop ((s.drop 4).getD 0 0).toNat).drop 4) := byDrop (byDrop (byDrop (byDrop hb _) _) _) _
      clear h7 h7' h5 h5' h6 h4 h2 e fail
      generalize (((s.drop 4).drop 1).drop ((s.drop 4).getD 0 0).toNat).drop 4 = r at *
      generalize bytesOf (((s.drop 4).drop 1).take ((s.drop 4).getD 0 0).toNat) = nm at *
      generalize number ((((s.drop 4).drop 1).drop ((s.drop 4).getD 0 0).toNat).take 4) = f at *
      generalize ((s.drop 4).getD 0 0).toNat = N at *
      refine ⟨⟨0, ⟨Nat.zero_le _, Nat.zero_le _, fun n => rfl⟩, rfl, rfl, rfl, rfl, rfl, rfl, trivial⟩, fun g hg => ?_⟩
      obtain ⟨hg1, hg2, hg3⟩ := hg
      have hcl : (r.drop (5 * g)).length = r.length - 5 * g := List.length_drop
      have hcb : Bytes (r.drop (5 * g)) := byDrop hrb _
      have hchk : chk r g = number (((r.drop (5 * g)).drop 1).take 2) := rfl
      have hsucc := chks_succ r g
      have hcw := chks_w hrb g
      have hclen := chks_len r g
      have hd5 : (r.drop (5 * g)).drop 5 = r.drop (5 * (g + 1)) := by rw [List.drop_drop]; rfl
      obtain ⟨n, hn⟩ : ∃ n, s.length + 1 = (n + 1) + g := ⟨s.length - g, by omega⟩
      have hall : rdAll (s.length + 1) r [] = rdAll (n + 1) (r.drop (5 * g)) (chks r g) := by rw [hn]; exact hg3 (n + 1)
      have hE : first [whenE (!(r.drop (5 * g)).getD 0 0 == 69 && (r.drop (5 * g)).getD 0 0 != 70) 1, whenE (!(r.drop (5 * g)).getD 0 0 == 69 && ((chks r g).length : Int) == 256) 5] = recErr ((r.drop (5 * g)).getD 0 0) (chks r g).length := rfl
      have hq : decide ((0 : Int) < ((s.length - 4 - 1 - N - 4 - 5 * g - 1 - 4 : Nat) : Int)) = decide (0 < ((r.drop (5 * g)).drop 5).length) := decide_eq_decide.2 (by rw [List.length_drop]; omega)
      have hd5' : (List.drop 4 (List.drop 1 (r.drop (5 * g)))) = (r.drop (5 * g)).drop 5 := by rw [List.drop_drop]
      simp only [hE, hq, hd5', List.take_take, -eq_self]
      have hcont : ∀ n, rdAll (n + (g + 1)) r [] = rdAll (n + 1) (r.drop (5 * g)) (chks r g) := by
        intro n
        rw [show n + (g + 1) = (n + 1) + g by omega]
        exact hg3 (n + 1)
      rw [hchk] at hsucc
      generalize r.drop (5 * g) = cur at *
      generalize chks r g = L at *
      have errs : ∀ {e : Int}, (rdRec cur L).1 = e → e ≠ 0 → [] = (readS s).1.1 ∧ 0 = (readS s).1.2.1 ∧ (readS s).1.2.2 = [] ∧ e = (readS s).2 ∧ True := by
        intro e h1 h2
        rw [readS_err hbg (hall.trans (rdAll_stop (by rw [h1]; exact h2))) (by rw [h1]; exact h2), h1]
        exact ⟨rfl, rfl, rfl, rfl, trivial⟩
      have hnum : 0 ≤ number (List.take 2 (List.drop 1 cur)) ∧ number (List.take 2 (List.drop 1 cur)) < 256 ^ 2 := number_bd 2 _ (byTake (byDrop hcb _) _) (by simp; omega)
      rw [show (256 : Int) ^ 2 = 65536 by decide] at hnum
      refine ⟨fun h8 => ?_, fun h8 => ⟨by omega, by omega, by omega, fun _ => by omega, by decide, fun h9 => ⟨fun h10 => ?_, fun h10 => ?_⟩, fun h9 => ⟨fun h10 => ?_, fun h10 => ?_⟩⟩⟩
      · exact errs (by rw [rdRec_none (by omega)]) (by decide)
      · have h9' : recErr (cur.getD 0 0) L.length ≠ 0 := by simpa using h9
        exact errs (by rw [rdRec_bad (by omega) h9']) h9'
      · rw [h9] at h10; cases h10
      · have h9' : recErr (cur.getD 0 0) L.length = 0 := by simpa using h9
        exact errs (by rw [rdRec_torn (by omega) h9' (by omega)]) (by decide)
      · have h9' : recErr (cur.getD 0 0) L.length = 0 := by simpa using h9
        have h5 : ¬ cur.length < 5 := by omega
        have hfull := rdRec_full h9' h5
        have hlen5 : 5 ≤ ([cur.getD 0 0] ++ List.take 4 (List.drop 1 cur)).length := by simp only [List.length_append, List.length_take, List.length_drop, List.length_cons, List.length_nil]; omega
        have htk := take5 (l := cur) (by omega)
        have hm2 : min 2 4 = 2 := rfl
        rw [hm2]
        rw [htk]
        have ht5 : (List.take 5 cur).length = 5 := by rw [List.length_take]; omega
        rw [eqT_int .u8 5 _ _ ht5 rfl, eqT_int .u8 5 _ _ ht5 rfl]
        refine ⟨by omega, by omega, by omega, by simp only [room]; omega, hlen5, by omega, by omega, ⟨by omega, byTake (byDrop hcb _) _⟩, ⟨by omega, by omega⟩, fun h11 => ⟨⟨by omega, hcw⟩, fun h12 => ?_, fun h12 => ⟨fun h13 => ⟨by omega, by decide, fun h14 => ?_, fun h14 => ?_⟩, fun h13 => ?_⟩⟩, fun h11 => ⟨fun h12 => ?_, fun h12 => ⟨fun h13 => ?_, fun h13 => ?_⟩⟩⟩
        · rw [h11, if_pos rfl] at hfull
          exact errs (by rw [hfull]) (by simpa using h12)
        · rw [h11, if_pos rfl] at hfull
          have h12' : whenE (!decide (List.take 5 cur = tlast L)) 27 = 0 := by simpa using h12
          rw [h12'] at hfull
          have h14' : first [whenE (decide (0 < (cur.drop 5).length)) 23, checkReel nm f L] ≠ 0 := by simpa using h14
          rw [readS_bad hbg (hall.trans (rdAll_last (by rw [hfull]) (by rw [hfull]))) h14']
          exact ⟨rfl, rfl, rfl, rfl, trivial⟩
        · rw [h11, if_pos rfl] at hfull
          have h12' : whenE (!decide (List.take 5 cur = tlast L)) 27 = 0 := by simpa using h12
          rw [h12'] at hfull
          have h14' : first [whenE (decide (0 < (cur.drop 5).length)) 23, checkReel nm f L] = 0 := by simpa using h14
          rw [readS_ok hbg (hall.trans (rdAll_last (by rw [hfull]) (by rw [hfull]))) h14']
          exact ⟨rfl, rfl, rfl, rfl, trivial⟩
        · rw [h11] at h13; cases h13
        · rw [h11, if_neg (by decide)] at hfull
          exact errs (by rw [hfull]) (by simpa using h12)
        · rw [h11] at h13; cases h13
        · rw [h11, if_neg (by decide)] at hfull
          have h12' : whenE (!decide (List.take 5 cur = tframe L.length (number (List.take 2 (List.drop 1 cur))))) 27 = 0 := by simpa using h12
          rw [h12'] at hfull
          have hn256 : L.length ≠ 256 := by
            rcases (recErr_zero h9').2 with h | h
            · rw [h] at h11; cases h11
            · exact h
          refine ⟨by simp only [room]; omega, g + 1, ⟨by omega, by omega, fun n => ?_⟩, by omega, rfl, rfl, hd5, rfl, rfl, hsucc.symm, trivial⟩
          rw [hcont n, rdAll_more (by rw [hfull]) (by rw [hfull]), hfull, hd5, hsucc]
def sp23 : FSpec := ⟨fun vs => match vs with
  | [.one (.sl (.int .u8) s)] => some ([List.length s ≤ 1000000 ∧ Bytes s], .tup [rV (readS s).1.1 (readS s).1.2.1 (readS s).1.2.2, iV (readS s).2])
  | _ => none, true⟩
theorem so23_ : SpecOk P1 gl1 23 sp23 := by
  intro vs ps r h hp
  simp only [sp23] at h
  split at h
  · cases h
    have := hp _ (List.mem_singleton.2 rfl)
    exact fn23 _ this.1 this.2
  · cases h
theorem so23 : Sp1 23 sp23 := ⟨so23_, Proofs.Tryd.f23, _, by kernel_rfl, rfl, by kernel_rfl⟩
end Go.Sx

/- What the engine asks, written out (printed by a program). -/
namespace Go.Sx
open U
theorem vc77 (nm : List UInt8) (f : Int) (l : List Int) : exF (env false [] []) h0 0 77 Proofs.Tryd.f77 [rV nm f l] (.val (iV (f + (l.length : Int)))) = (fits IntKind.i64 (f + (↑(List.length l) : Int)) ∧ f + (↑(List.length l) : Int) = f + (↑(List.length l) : Int) ∧ True) := by
  kernel_rfl
end Go.Sx

/- Contracts: the end of a reel. -/
namespace Go.Sx
open U
theorem fn77 (nm : List UInt8) (f : Int) (l : List Int) (h : fits .i64 (f + (l.length : Int))) : Fn P1 gl1 77 [rV nm f l] (.val (iV (f + (l.length : Int)))) true := by
  refine Fn.flat ?_ rfl
  refine fn_of false [] [] h0 0 Proofs.Tryd.f77 trivial trivial (by kernel_rfl) rfl (by kernel_rfl) rfl rfl rfl ?_
  rw [vc77]
  exact ⟨h, rfl, trivial⟩
def sp77 : FSpec := ⟨fun vs => match vs with
  | [.agg [.one (.str _), .one (.int .i64 f), .one (.sl (.int .i64) l)]] => some ([fits .i64 (f + (List.length l : Int))], .val (iV (f + (List.length l : Int))))
  | _ => none, true⟩
theorem so77_ : SpecOk P1 gl1 77 sp77 := by
  intro vs ps r h hp
  simp only [sp77] at h
  split at h
  · cases h
    exact fn77 _ _ _ (hp _ (List.mem_singleton.2 rfl))
  · cases h
theorem so77 : Sp1 77 sp77 := ⟨so77_, Proofs.Tryd.f77, _, by kernel_rfl, rfl, by kernel_rfl⟩
end Go.Sx
