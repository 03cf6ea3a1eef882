/- A verified symbolic run of functions, part 17: lemmas, no claim of their own. -/
import Derived.Test.YtpfngnmgipnmlaaDoorS16
/- Plain functions and hints: the law. -/
namespace Go.Sx.U
def and7 (x : Int) : Int := bits .and .u8 x 127
def day : List UInt8 := [100, 97, 121]
def d3 : List Int := List.replicate 3 0
def dat3 (d : List Int) : List Int := [and7 (d.getD 0 0), and7 (d.getD 1 0), and7 (d.getD 2 0), 0, 0, 0, 0, 0, 0, 0]
/-- A packet's frame. -/
def pfr (ds : List (List Int)) (i : Nat) : List Int := frame 1 i (dat3 (ds.getD i d3))
/-- What is sent: the frames of the first packets. -/
def sent (ds : List (List Int)) : Nat → List Int
  | 0 => []
  | i + 1 => sent ds i ++ pfr ds i
/-- A packet's check. -/
def pck (ds : List (List Int)) (i : Nat) : Int := sum 251 65521 (frame1 1 i (dat3 (ds.getD i d3)))
def pcks (ds : List (List Int)) (i : Nat) : List Int := (List.range i).map (pck ds)
end Go.Sx.U
namespace Go.Sx
open U
/-- A thing that is not looked into. -/
noncomputable def U.hid {α : Type} (a : α) : α := Classical.choose (⟨a, rfl⟩ : ∃ f : α, f = a)
theorem hid_eq {α : Type} (a : α) : hid a = a := Classical.choose_spec (⟨a, rfl⟩ : ∃ f : α, f = a)
def idOf (s : St) (t : Nat) : List Nat := match lookT s.tm t with
  | some (.val (.one (.ptr id _))) => [id]
  | _ => []
def onlyO (s : St) (ids : List Nat) : List (Nat × Option AObj) := (liveO [] s.ob).filter fun x => ids.contains x.1
noncomputable def h4 : Hints := ⟨fun f k s => match f, k with
  | 4, 6 => match listAs s 47 (.arr 3 (.int .u8)), boxAt s 8 with
    | some ds, some (i8, [.one (.str nm), .one (.int .i64 fr), _]) => some ⟨Nat, fun i => ⟨[tI 49 i, (7, .val (.one (.own s.nx)))] ++ keepT [0, 5, 8, 47, 48] s.tm,
        [(s.nx, some (.row (.int .u8) (hid sent ds i))), (i8, some (.box [.one (.str nm), .one (.int .i64 fr), .one (.own (s.nx + 1))])), (s.nx + 1, some (.row (.int .i64) (hid pcks ds i)))] ++ onlyO s (idOf s 5), s.nx + 2, s.lr⟩, fun i => i ≤ List.length ds, fun i => List.length ds - i⟩
    | _, _ => none
  | 4, 36 => match listAs s 260 pT, boxAt s 18, ownOf s 260 with
    | some l0, some (i8, [.one (.str n0), .one (.int .i64 f0), .one (.sl (.int .i64) c0)]), [io] => some ⟨Nat × List Pk × List UInt8 × Int × List Int, fun g => ⟨[tI 262 g.1, tI 261 (List.length g.2.1)] ++ keepT [18, 260] s.tm,
        [(io, some (.row pT g.2.1)), (i8, some (.box [.one (.str g.2.2.1), .one (.int .i64 g.2.2.2.1), .one (.sl (.int .i64) g.2.2.2.2)]))], s.nx, s.lr⟩, fun g => g.1 ≤ List.length g.2.1 ∧ g.2 = (l0, n0, f0, c0), fun g => List.length g.2.1 - g.1⟩
    | _, _, _ => none
  | _, _ => none⟩
def sp20 : FSpec := ⟨fun vs => match vs with
  | [] => some ([], .val (bV true))
  | _ => none, true⟩
noncomputable def sp22h : FSpec := ⟨fun vs => match vs with
  | [.one (.sl (.int .u8) s)] => some ([List.length s ≤ 1000000 ∧ Bytes s], .tup [rV (hid rebuilt s).1.1 (hid rebuilt s).1.2.1 (hid rebuilt s).1.2.2, bV (hid rebuilt s).2.1, iV (hid rebuilt s).2.2])
  | _ => none, true⟩
theorem so22h : Sp1 22 sp22h := by
  have : sp22h = sp22 := by simp only [sp22h, sp22, hid_eq]; rfl
  rw [this]; exact so22
noncomputable def sp23h : FSpec := ⟨fun vs => match vs with
  | [.one (.sl (.int .u8) s)] => some ([List.length s ≤ 1000000 ∧ Bytes s], .tup [rV (hid readS s).1.1 (hid readS s).1.2.1 (hid readS s).1.2.2, iV (hid readS s).2])
  | _ => none, true⟩
theorem so23h : Sp1 23 sp23h := by
  have : sp23h = sp23 := by simp only [sp23h, sp23, hid_eq]; rfl
  rw [this]; exact so23
noncomputable def sp21h : FSpec := ⟨fun vs => match vs with
  | [.agg [.one (.str nm), .one (.int .i64 f), .one (.sl (.int .i64) l)]] => some ([ReelOk nm f l], .tup [.one (.frs (.int .u8) (hid stream nm f l)), iV 0])
  | _ => none, true⟩
theorem so21h : Sp1 21 sp21h := by
  have : sp21h = sp21 := by simp only [sp21h, sp21, hid_eq]; rfl
  rw [this]; exact so21
noncomputable def sp14h : FSpec := ⟨fun vs => match vs with
  | [.agg [.one (.int .i64 k), .one (.int .i64 c), .arr 10 (.int .u8) d]] => some ([List.length d = 10 ∧ Bytes d], .tup [aV 16 (hid pkEnc k c d).1, iV (hid pkEnc k c d).2])
  | _ => none, true⟩
theorem so14h : Sp1 14 sp14h := by
  have : sp14h = sp14 := by simp only [sp14h, sp14, hid_eq]; rfl
  rw [this]; exact so14
noncomputable def sp15h : FSpec := ⟨fun vs => match vs with
  | [.one (.sl (.int .u8) s)] => some ([Bytes s ∧ List.length s ≤ 1000000000], .tup [.one (.frs pT (hid received s).1), .one (.frs spT (hid received s).2.1), iV (hid received s).2.2])
  | _ => none, true⟩
theorem so15h : Sp1 15 sp15h := by
  have : sp15h = sp15 := by simp only [sp15h, sp15, hid_eq]; rfl
  rw [this]; exact so15
noncomputable def sp16h : FSpec := ⟨fun vs => match vs with
  | [.one (.sl (.pair (.int .i64) (.pair (.int .i64) (.arr 10 (.int .u8)))) l), .one (.int .i64 k)] =>
    some ([List.length l ≤ 1024 ∧ (∀ p ∈ (show List Pk from l), p.1 = k ∧ pcheck p.1 p.2.1 = 0) ∧ within k 0 255 = 0 ∧ (lostTo l (List.length l - 1)).length ≤ 256], .tup [.one (.frs (.int .i64) (hid lostTo l (List.length l - 1))), iV 0])
  | _ => none, true⟩
theorem so16h : Sp1 16 sp16h := by
  have : sp16h = sp16 := by simp only [sp16h, sp16, hid_eq]; rfl
  rw [this]; exact so16
end Go.Sx

/- What the engine asks, written out (printed by a program). -/
namespace Go.Sx
open U
theorem vc20 (_u : Unit) : exF (env false [(17, sp17), (21, sp21), (22, sp22)] []) h0 0 20 Proofs.Tryd.f20 [] (.val (bV true)) = (ReelOk (Array.toList (ByteArray.data { data := #[(114 : UInt8)] })) (7 : Int) [(1 : Int), (2 : Int)] ∧ ((0 : Int) ≤ (0 : Int) ∧ (0 : Int) ≤ (19 : Int) ∧ (19 : Int) ≤ (↑(List.length (stream (Array.toList (ByteArray.data { data := #[(114 : UInt8)] })) (7 : Int) [(1 : Int), (2 : Int)])) : Int)) ∧ List.length (List.take (19 : Nat) (stream (Array.toList (ByteArray.data { data := #[(114 : UInt8)] })) (7 : Int) [(1 : Int), (2 : Int)])) = (19 : Nat) ∧ (List.length (List.take (19 : Nat) (stream (Array.toList (ByteArray.data { data := #[(114 : UInt8)] })) (7 : Int) [(1 : Int), (2 : Int)])) ≤ (1000000 : Nat) ∧ Bytes (List.take (19 : Nat) (stream (Array.toList (ByteArray.data { data := #[(114 : UInt8)] })) (7 : Int) [(1 : Int), (2 : Int)]))) ∧ ((bif bif bif Prod.snd (Prod.snd (rebuilt (List.take (19 : Nat) (stream (Array.toList (ByteArray.data { data := #[(114 : UInt8)] })) (7 : Int) [(1 : Int), (2 : Int)])))) == (0 : Int) then !Prod.fst (Prod.snd (rebuilt (List.take (19 : Nat) (stream (Array.toList (ByteArray.data { data := #[(114 : UInt8)] })) (7 : Int) [(1 : Int), (2 : Int)])))) else false then Prod.fst (Prod.fst (rebuilt (List.take (19 : Nat) (stream (Array.toList (ByteArray.data { data := #[(114 : UInt8)] })) (7 : Int) [(1 : Int), (2 : Int)])))) == Array.toList (ByteArray.data { data := #[(114 : UInt8)] }) else false then Prod.fst (Prod.snd (Prod.fst (rebuilt (List.take (19 : Nat) (stream (Array.toList (ByteArray.data { data := #[(114 : UInt8)] })) (7 : Int) [(1 : Int), (2 : Int)]))))) == (7 : Int) else false) = true → List.length (Prod.snd (Prod.snd (Prod.fst (rebuilt (List.take (19 : Nat) (stream (Array.toList (ByteArray.data { data := #[(114 : UInt8)] })) (7 : Int) [(1 : Int), (2 : Int)])))))) ≤ (1000000000 : Nat)) ∧ (bif bif bif bif Prod.snd (Prod.snd (rebuilt (List.take (19 : Nat) (stream (Array.toList (ByteArray.data { data := #[(114 : UInt8)] })) (7 : Int) [(1 : Int), (2 : Int)])))) == (0 : Int) then !Prod.fst (Prod.snd (rebuilt (List.take (19 : Nat) (stream (Array.toList (ByteArray.data { data := #[(114 : UInt8)] })) (7 : Int) [(1 : Int), (2 : Int)])))) else false then Prod.fst (Prod.fst (rebuilt (List.take (19 : Nat) (stream (Array.toList (ByteArray.data { data := #[(114 : UInt8)] })) (7 : Int) [(1 : Int), (2 : Int)])))) == Array.toList (ByteArray.data { data := #[(114 : UInt8)] }) else false then Prod.fst (Prod.snd (Prod.fst (rebuilt (List.take (19 : Nat) (stream (Array.toList (ByteArray.data { data := #[(114 : UInt8)] })) (7 : Int) [(1 : Int), (2 : Int)]))))) == (7 : Int) else false then decide (Prod.snd (Prod.snd (Prod.fst (rebuilt (List.take (19 : Nat) (stream (Array.toList (ByteArray.data { data := #[(114 : UInt8)] })) (7 : Int) [(1 : Int), (2 : Int)]))))) = [(1 : Int)]) else false) = true ∧ True) := by
  kernel_rfl
end Go.Sx
