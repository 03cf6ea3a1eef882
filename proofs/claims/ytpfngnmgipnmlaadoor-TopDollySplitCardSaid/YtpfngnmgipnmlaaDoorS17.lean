/- A verified symbolic run of functions, part 17: lemmas, no claim of their own. -/
import Derived.Test.YtpfngnmgipnmlaaDoorS16
/- What the engine asks, written out (printed by a program). -/
namespace Go.Sx
open U
theorem vc4 (ds : List (List Int)) (fr : Int) (cut : List Int) : exF (env false [(14, sp14h), (15, sp15h), (16, sp16h), (17, sp17), (20, sp20), (21, sp21h), (22, sp22h), (23, sp23h)] []) h4 0 4 Proofs.Tryd.f4 [.one (.sl (.arr 3 (.int .u8)) ds), .one (.int .u16 fr), aV 2 cut] (.val (bV true)) = (splitB (bif decide ((↑(List.length ds) : Int) < (1 : Int)) then true else decide ((12 : Int) < (↑(List.length ds) : Int))) (true = true ∧ True) (fits IntKind.i64 fr ∧ (∃ (g : Nat), Nat.le g (List.length ds) ∧ (0 : Int) = (↑g : Int) ∧ (↑(List.length ds) : Int) = (↑(List.length ds) : Int) ∧ ds = ds ∧ ds = ds ∧ hid sent ds g = [] ∧ Array.toList (ByteArray.data { data := #[(100 : UInt8), (97 : UInt8), (121 : UInt8)] }) = Array.toList (ByteArray.data { data := #[(100 : UInt8), (97 : UInt8), (121 : UInt8)] }) ∧ fr = fr ∧ hid pcks ds g = [] ∧ cut = cut ∧ True) ∧ ∀ (g : Nat), Nat.le g (List.length ds) → splitB (decide ((↑g : Int) < (↑(List.length ds) : Int))) (((0 : Int) ≤ (↑g : Int) ∧ (↑g : Int) < (↑(List.length ds) : Int)) ∧ ((0 : Int) ≤ (0 : Int) ∧ (0 : Int) < (3 : Int)) ∧ (0 : Nat) < List.length (List.getD ds g (List.replicate (3 : Nat) (0 : Int))) ∧ ((0 : Int) ≤ (1 : Int) ∧ (1 : Int) < (3 : Int)) ∧ (1 : Nat) < List.length (List.getD ds g (List.replicate (3 : Nat) (0 : Int))) ∧ ((0 : Int) ≤ (2 : Int) ∧ (2 : Int) < (3 : Int)) ∧ (2 : Nat) < List.length (List.getD ds g (List.replicate (3 : Nat) (0 : Int))) ∧ ((10 : Nat) = (10 : Nat) ∧ Bytes [bits BinOp.and IntKind.u8 (List.getD (List.getD ds g (List.replicate (3 : Nat) (0 : Int))) (0 : Nat) (0 : Int)) (127 : Int), bits BinOp.and IntKind.u8 (List.getD (List.getD ds g (List.replicate (3 : Nat) (0 : Int))) (1 : Nat) (0 : Int)) (127 : Int), bits BinOp.and IntKind.u8 (List.getD (List.getD ds g (List.replicate (3 : Nat) (0 : Int))) (2 : Nat) (0 : Int)) (127 : Int), (0 : Int), (0 : Int), (0 : Int), (0 : Int), (0 : Int), (0 : Int), (0 : Int)]) ∧ splitB (Prod.snd (hid pkEnc (1 : Int) (↑g : Int) [bits BinOp.and IntKind.u8 (List.getD (List.getD ds g (List.replicate (3 : Nat) (0 : Int))) (0 : Nat) (0 : Int)) (127 : Int), bits BinOp.and IntKind.u8 (List.getD (List.getD ds g (List.replicate (3 : Nat) (0 : Int))) (1 : Nat) (0 : Int)) (127 : Int), bits BinOp.and IntKind.u8 (List.getD (List.getD ds g (List.replicate (3 : Nat) (0 : Int))) (2 : Nat) (0 : Int)) (127 : Int), (0 : Int), (0 : Int), (0 : Int), (0 : Int), (0 : Int), (0 : Int), (0 : Int)]) != (0 : Int)) (false = true ∧ True) (((0 : Int) ≤ (0 : Int) ∧ (0 : Int) ≤ (16 : Int) ∧ (16 : Int) ≤ (16 : Int)) ∧ List.length (List.take (16 : Nat) (Prod.fst (hid pkEnc (1 : Int) (↑g : Int) [bits BinOp.and IntKind.u8 (List.getD (List.getD ds g (List.replicate (3 : Nat) (0 : Int))) (0 : Nat) (0 : Int)) (127 : Int), bits BinOp.and IntKind.u8 (List.getD (List.getD ds g (List.replicate (3 : Nat) (0 : Int))) (1 : Nat) (0 : Int)) (127 : Int), bits BinOp.and IntKind.u8 (List.getD (List.getD ds g (List.replicate (3 : Nat) (0 : Int))) (2 : Nat) (0 : Int)) (127 : Int), (0 : Int), (0 : Int), (0 : Int), (0 : Int), (0 : Int), (0 : Int), (0 : Int)]))) = (16 : Nat) ∧ room (List.length (hid sent ds g) + List.length (List.take (16 : Nat) (Prod.fst (hid pkEnc (1 : Int) (↑g : Int) [bits BinOp.and IntKind.u8 (List.getD (List.getD ds g (List.replicate (3 : Nat) (0 : Int))) (0 : Nat) (0 : Int)) (127 : Int), bits BinOp.and IntKind.u8 (List.getD (List.getD ds g (List.replicate (3 : Nat) (0 : Int))) (1 : Nat) (0 : Int)) (127 : Int), bits BinOp.and IntKind.u8 (List.getD (List.getD ds g (List.replicate (3 : Nat) (0 : Int))) (2 : Nat) (0 : Int)) (127 : Int), (0 : Int), (0 : Int), (0 : Int), (0 : Int), (0 : Int), (0 : Int), (0 : Int)])))) (1 : Nat) ∧ ((0 : Int) ≤ (14 : Int) ∧ (14 : Int) < (16 : Int)) ∧ (14 : Nat) < List.length (Prod.fst (hid pkEnc (1 : Int) (↑g : Int) [bits BinOp.and IntKind.u8 (List.getD (List.getD ds g (List.replicate (3 : Nat) (0 : Int))) (0 : Nat) (0 : Int)) (127 : Int), bits BinOp.and IntKind.u8 (List.getD (List.getD ds g (List.replicate (3 : Nat) (0 : Int))) (1 : Nat) (0 : Int)) (127 : Int), bits BinOp.and IntKind.u8 (List.getD (List.getD ds g (List.replicate (3 : Nat) (0 : Int))) (2 : Nat) (0 : Int)) (127 : Int), (0 : Int), (0 : Int), (0 : Int), (0 : Int), (0 : Int), (0 : Int), (0 : Int)])) ∧ fits IntKind.i64 (List.getD (Prod.fst (hid pkEnc (1 : Int) (↑g : Int) [bits BinOp.and IntKind.u8 (List.getD (List.getD ds g (List.replicate (3 : Nat) (0 : Int))) (0 : Nat) (0 : Int)) (127 : Int), bits BinOp.and IntKind.u8 (List.getD (List.getD ds g (List.replicate (3 : Nat) (0 : Int))) (1 : Nat) (0 : Int)) (127 : Int), bits BinOp.and IntKind.u8 (List.getD (List.getD ds g (List.replicate (3 : Nat) (0 : Int))) (2 : Nat) (0 : Int)) (127 : Int), (0 : Int), (0 : Int), (0 : Int), (0 : Int), (0 : Int), (0 : Int), (0 : Int)])) (14 : Nat) (0 : Int)) ∧ ((0 : Int) ≤ (8 : Int) ∧ (8 : Nat) ≤ IntKind.bits IntKind.i64 ∧ fits IntKind.i64 (List.getD (Prod.fst (hid pkEnc (1 : Int) (↑g : Int) [bits BinOp.and IntKind.u8 (List.getD (List.getD ds g (List.replicate (3 : Nat) (0 : Int))) (0 : Nat) (0 : Int)) (127 : Int), bits BinOp.and IntKind.u8 (List.getD (List.getD ds g (List.replicate (3 : Nat) (0 : Int))) (1 : Nat) (0 : Int)) (127 : Int), bits BinOp.and IntKind.u8 (List.getD (List.getD ds g (List.replicate (3 : Nat) (0 : Int))) (2 : Nat) (0 : Int)) (127 : Int), (0 : Int), (0 : Int), (0 : Int), (0 : Int), (0 : Int), (0 : Int), (0 : Int)])) (14 : Nat) (0 : Int) * (256 : Int))) ∧ ((0 : Int) ≤ (15 : Int) ∧ (15 : Int) < (16 : Int)) ∧ (15 : Nat) < List.length (Prod.fst (hid pkEnc (1 : Int) (↑g : Int) [bits BinOp.and IntKind.u8 (List.getD (List.getD ds g (List.replicate (3 : Nat) (0 : Int))) (0 : Nat) (0 : Int)) (127 : Int), bits BinOp.and IntKind.u8 (List.getD (List.getD ds g (List.replicate (3 : Nat) (0 : Int))) (1 : Nat) (0 : Int)) (127 : Int), bits BinOp.and IntKind.u8 (List.getD (List.getD ds g (List.replicate (3 : Nat) (0 : Int))) (2 : Nat) (0 : Int)) (127 : Int), (0 : Int), (0 : Int), (0 : Int), (0 : Int), (0 : Int), (0 : Int), (0 : Int)])) ∧ fits IntKind.i64 (List.getD (Prod.fst (hid pkEnc (1 : Int) (↑g : Int) [bits BinOp.and IntKind.u8 (List.getD (List.getD ds g (List.replicate (3 : Nat) (0 : Int))) (0 : Nat) (0 : Int)) (127 : Int), bits BinOp.and IntKind.u8 (List.getD (List.getD ds g (List.replicate (3 : Nat) (0 : Int))) (1 : Nat) (0 : Int)) (127 : Int), bits BinOp.and IntKind.u8 (List.getD (List.getD ds g (List.replicate (3 : Nat) (0 : Int))) (2 : Nat) (0 : Int)) (127 : Int), (0 : Int), (0 : Int), (0 : Int), (0 : Int), (0 : Int), (0 : Int), (0 : Int)])) (15 : Nat) (0 : Int)) ∧ room (List.length (hid pcks ds g) + (1 : Nat)) (8 : Nat) ∧ fits IntKind.i64 ((↑g : Int) + (1 : Int)) ∧ ∃ (g' : Nat), Nat.le g' (List.length ds) ∧ List.length ds - g' < List.length ds - g ∧ (↑g : Int) + (1 : Int) = (↑g' : Int) ∧ (↑(List.length ds) : Int) = (↑(List.length ds) : Int) ∧ ds = ds ∧ ds = ds ∧ hid sent ds g ++ List.take (16 : Nat) (Prod.fst (hid pkEnc (1 : Int) (↑g : Int) [bits BinOp.and IntKind.u8 (List.getD (List.getD ds g (List.replicate (3 : Nat) (0 : Int))) (0 : Nat) (0 : Int)) (127 : Int), bits BinOp.and IntKind.u8 (List.getD (List.getD ds g (List.replicate (3 : Nat) (0 : Int))) (1 : Nat) (0 : Int)) (127 : Int), bits BinOp.and IntKind.u8 (List.getD (List.getD ds g (List.replicate (3 : Nat) (0 : Int))) (2 : Nat) (0 : Int)) (127 : Int), (0 : Int), (0 : Int), (0 : Int), (0 : Int), (0 : Int), (0 : Int), (0 : Int)])) = hid sent ds g' ∧ Array.toList (ByteArray.data { data := #[(100 : UInt8), (97 : UInt8), (121 : UInt8)] }) = Array.toList (ByteArray.data { data := #[(100 : UInt8), (97 : UInt8), (121 : UInt8)] }) ∧ fr = fr ∧ hid pcks ds g ++ [bits BinOp.or IntKind.i64 (List.getD (Prod.fst (hid pkEnc (1 : Int) (↑g : Int) [bits BinOp.and IntKind.u8 (List.getD (List.getD ds g (List.replicate (3 : Nat) (0 : Int))) (0 : Nat) (0 : Int)) (127 : Int), bits BinOp.and IntKind.u8 (List.getD (List.getD ds g (List.replicate (3 : Nat) (0 : Int))) (1 : Nat) (0 : Int)) (127 : Int), bits BinOp.and IntKind.u8 (List.getD (List.getD ds g (List.replicate (3 : Nat) (0 : Int))) (2 : Nat) (0 : Int)) (127 : Int), (0 : Int), (0 : Int), (0 : Int), (0 : Int), (0 : Int), (0 : Int), (0 : Int)])) (14 : Nat) (0 : Int) * (256 : Int)) (List.getD (Prod.fst (hid pkEnc (1 : Int) (↑g : Int) [bits BinOp.and IntKind.u8 (List.getD (List.getD ds g (List.replicate (3 : Nat) (0 : Int))) (0 : Nat) (0 : Int)) (127 : Int), bits BinOp.and IntKind.u8 (List.getD (List.getD ds g (List.replicate (3 : Nat) (0 : Int))) (1 : Nat) (0 : Int)) (127 : Int), bits BinOp.and IntKind.u8 (List.getD (List.getD ds g (List.replicate (3 : Nat) (0 : Int))) (2 : Nat) (0 : Int)) (127 : Int), (0 : Int), (0 : Int), (0 : Int), (0 : Int), (0 : Int), (0 : Int), (0 : Int)])) (15 : Nat) (0 : Int))] = hid pcks ds g' ∧ cut = cut ∧ True)) (ReelOk (Array.toList (ByteArray.data { data := #[(100 : UInt8), (97 : UInt8), (121 : UInt8)] })) fr (hid pcks ds g) ∧ (((0 : Int) != (0 : Int)) = false → fits IntKind.i64 ((5 : Int) * (↑(List.length ds) : Int))) ∧ (((0 : Int) != (0 : Int)) = false → fits IntKind.i64 ((12 : Int) + (5 : Int) * (↑(List.length ds) : Int))) ∧ (((0 : Int) != (0 : Int)) = false → fits IntKind.i64 ((12 : Int) + (5 : Int) * (↑(List.length ds) : Int) + (5 : Int))) ∧ splitB (bif (0 : Int) != (0 : Int) then true else (↑(List.length (hid stream (Array.toList (ByteArray.data { data := #[(100 : UInt8), (97 : UInt8), (121 : UInt8)] })) fr (hid pcks ds g))) : Int) != (12 : Int) + (5 : Int) * (↑(List.length ds) : Int) + (5 : Int)) (false = true ∧ True) (((0 : Int) ≤ (0 : Int) ∧ (0 : Int) < (2 : Int)) ∧ (0 : Nat) < List.length cut ∧ fits IntKind.i64 (List.getD cut (0 : Nat) (0 : Int)) ∧ ((0 : Int) ≤ List.getD cut (0 : Nat) (0 : Int) ∧ (0 : Int) < (↑(List.length ds) : Int)) ∧ fits IntKind.i64 ((1 : Int) + List.getD cut (0 : Nat) (0 : Int) % (↑(List.length ds) : Int)) ∧ ((0 : Int) ≤ (1 : Int) ∧ (1 : Int) < (2 : Int)) ∧ (1 : Nat) < List.length cut ∧ fits IntKind.i64 (List.getD cut (1 : Nat) (0 : Int)) ∧ ((0 : Int) ≤ List.getD cut (1 : Nat) (0 : Int) ∧ (0 : Int) < (5 : Int)) ∧ fits IntKind.i64 ((5 : Int) * ((1 : Int) + List.getD cut (0 : Nat) (0 : Int) % (↑(List.length ds) : Int))) ∧ fits IntKind.i64 ((12 : Int) + (5 : Int) * ((1 : Int) + List.getD cut (0 : Nat) (0 : Int) % (↑(List.length ds) : Int))) ∧ fits IntKind.i64 ((12 : Int) + (5 : Int) * ((1 : Int) + List.getD cut (0 : Nat) (0 : Int) % (↑(List.length ds) : Int)) + List.getD cut (1 : Nat) (0 : Int) % (5 : Int)) ∧ ((0 : Int) ≤ (0 : Int) ∧ (0 : Int) ≤ min (↑(List.length (hid stream (Array.toList (ByteArray.data { data := #[(100 : UInt8), (97 : UInt8), (121 : UInt8)] })) fr (hid pcks ds g))) : Int) ((12 : Int) + (5 : Int) * ((1 : Int) + List.getD cut (0 : Nat) (0 : Int) % (↑(List.length ds) : Int)) + List.getD cut (1 : Nat) (0 : Int) % (5 : Int)) ∧ min (↑(List.length (hid stream (Array.toList (ByteArray.data { data := #[(100 : UInt8), (97 : UInt8), (121 : UInt8)] })) fr (hid pcks ds g))) : Int) ((12 : Int) + (5 : Int) * ((1 : Int) + List.getD cut (0 : Nat) (0 : Int) % (↑(List.length ds) : Int)) + List.getD cut (1 : Nat) (0 : Int) % (5 : Int)) ≤ (↑(List.length (hid stream (Array.toList (ByteArray.data { data := #[(100 : UInt8), (97 : UInt8), (121 : UInt8)] })) fr (hid pcks ds g))) : Int)) ∧ List.length (List.take (Int.toNat (min (↑(List.length (hid stream (Array.toList (ByteArray.data { data := #[(100 : UInt8), (97 : UInt8), (121 : UInt8)] })) fr (hid pcks ds g))) : Int) ((12 : Int) + (5 : Int) * ((1 : Int) + List.getD cut (0 : Nat) (0 : Int) % (↑(List.length ds) : Int)) + List.getD cut (1 : Nat) (0 : Int) % (5 : Int)))) (hid stream (Array.toList (ByteArray.data { data := #[(100 : UInt8), (97 : UInt8), (121 : UInt8)] })) fr (hid pcks ds g))) = Int.toNat (min (↑(List.length (hid stream (Array.toList (ByteArray.data { data := #[(100 : UInt8), (97 : UInt8), (121 : UInt8)] })) fr (hid pcks ds g))) : Int) ((12 : Int) + (5 : Int) * ((1 : Int) + List.getD cut (0 : Nat) (0 : Int) % (↑(List.length ds) : Int)) + List.getD cut (1 : Nat) (0 : Int) % (5 : Int))) ∧ room ((0 : Nat) + List.length (List.take (Int.toNat (min (↑(List.length (hid stream (Array.toList (ByteArray.data { data := #[(100 : UInt8), (97 : UInt8), (121 : UInt8)] })) fr (hid pcks ds g))) : Int) ((12 : Int) + (5 : Int) * ((1 : Int) + List.getD cut (0 : Nat) (0 : Int) % (↑(List.length ds) : Int)) + List.getD cut (1 : Nat) (0 : Int) % (5 : Int)))) (hid stream (Array.toList (ByteArray.data { data := #[(100 : UInt8), (97 : UInt8), (121 : UInt8)] })) fr (hid pcks ds g)))) (1 : Nat) ∧ (List.length (List.take (Int.toNat (min (↑(List.length (hid stream (Array.toList (ByteArray.data { data := #[(100 : UInt8), (97 : UInt8), (121 : UInt8)] })) fr (hid pcks ds g))) : Int) ((12 : Int) + (5 : Int) * ((1 : Int) + List.getD cut (0 : Nat) (0 : Int) % (↑(List.length ds) : Int)) + List.getD cut (1 : Nat) (0 : Int) % (5 : Int)))) (hid stream (Array.toList (ByteArray.data { data := #[(100 : UInt8), (97 : UInt8), (121 : UInt8)] })) fr (hid pcks ds g))) ≤ (1000000 : Nat) ∧ Bytes (List.take (Int.toNat (min (↑(List.length (hid stream (Array.toList (ByteArray.data { data := #[(100 : UInt8), (97 : UInt8), (121 : UInt8)] })) fr (hid pcks ds g))) : Int) ((12 : Int) + (5 : Int) * ((1 : Int) + List.getD cut (0 : Nat) (0 : Int) % (↑(List.length ds) : Int)) + List.getD cut (1 : Nat) (0 : Int) % (5 : Int)))) (hid stream (Array.toList (ByteArray.data { data := #[(100 : UInt8), (97 : UInt8), (121 : UInt8)] })) fr (hid pcks ds g)))) ∧ ((bif bif bif Prod.snd (Prod.snd (hid rebuilt (List.take (Int.toNat (min (↑(List.length (hid stream (Array.toList (ByteArray.data { data := #[(100 : UInt8), (97 : UInt8), (121 : UInt8)] })) fr (hid pcks ds g))) : Int) ((12 : Int) + (5 : Int) * ((1 : Int) + List.getD cut (0 : Nat) (0 : Int) % (↑(List.length ds) : Int)) + List.getD cut (1 : Nat) (0 : Int) % (5 : Int)))) (hid stream (Array.toList (ByteArray.data { data := #[(100 : UInt8), (97 : UInt8), (121 : UInt8)] })) fr (hid pcks ds g))))) != (0 : Int) then true else Prod.fst (Prod.snd (hid rebuilt (List.take (Int.toNat (min (↑(List.length (hid stream (Array.toList (ByteArray.data { data := #[(100 : UInt8), (97 : UInt8), (121 : UInt8)] })) fr (hid pcks ds g))) : Int) ((12 : Int) + (5 : Int) * ((1 : Int) + List.getD cut (0 : Nat) (0 : Int) % (↑(List.length ds) : Int)) + List.getD cut (1 : Nat) (0 : Int) % (5 : Int)))) (hid stream (Array.toList (ByteArray.data { data := #[(100 : UInt8), (97 : UInt8), (121 : UInt8)] })) fr (hid pcks ds g))))) then true else Prod.fst (Prod.fst (hid rebuilt (List.take (Int.toNat (min (↑(List.length (hid stream (Array.toList (ByteArray.data { data := #[(100 : UInt8), (97 : UInt8), (121 : UInt8)] })) fr (hid pcks ds g))) : Int) ((12 : Int) + (5 : Int) * ((1 : Int) + List.getD cut (0 : Nat) (0 : Int) % (↑(List.length ds) : Int)) + List.getD cut (1 : Nat) (0 : Int) % (5 : Int)))) (hid stream (Array.toList (ByteArray.data { data := #[(100 : UInt8), (97 : UInt8), (121 : UInt8)] })) fr (hid pcks ds g))))) != Array.toList (ByteArray.data { data := #[(100 : UInt8), (97 : UInt8), (121 : UInt8)] }) then true else Prod.fst (Prod.snd (Prod.fst (hid rebuilt (List.take (Int.toNat (min (↑(List.length (hid stream (Array.toList (ByteArray.data { data := #[(100 : UInt8), (97 : UInt8), (121 : UInt8)] })) fr (hid pcks ds g))) : Int) ((12 : Int) + (5 : Int) * ((1 : Int) + List.getD cut (0 : Nat) (0 : Int) % (↑(List.length ds) : Int)) + List.getD cut (1 : Nat) (0 : Int) % (5 : Int)))) (hid stream (Array.toList (ByteArray.data { data := #[(100 : UInt8), (97 : UInt8), (121 : UInt8)] })) fr (hid pcks ds g)))))) != fr) = false → (0 : Int) ≤ (0 : Int) ∧ (0 : Int) ≤ (1 : Int) + List.getD cut (0 : Nat) (0 : Int) % (↑(List.length ds) : Int) ∧ (1 : Int) + List.getD cut (0 : Nat) (0 : Int) % (↑(List.length ds) : Int) ≤ (↑(List.length (hid pcks ds g)) : Int)) ∧ ((bif bif bif Prod.snd (Prod.snd (hid rebuilt (List.take (Int.toNat (min (↑(List.length (hid stream (Array.toList (ByteArray.data { data := #[(100 : UInt8), (97 : UInt8), (121 : UInt8)] })) fr (hid pcks ds g))) : Int) ((12 : Int) + (5 : Int) * ((1 : Int) + List.getD cut (0 : Nat) (0 : Int) % (↑(List.length ds) : Int)) + List.getD cut (1 : Nat) (0 : Int) % (5 : Int)))) (hid stream (Array.toList (ByteArray.data { data := #[(100 : UInt8), (97 : UInt8), (121 : UInt8)] })) fr (hid pcks ds g))))) != (0 : Int) then true else Prod.fst (Prod.snd (hid rebuilt (List.take (Int.toNat (min (↑(List.length (hid stream (Array.toList (ByteArray.data { data := #[(100 : UInt8), (97 : UInt8), (121 : UInt8)] })) fr (hid pcks ds g))) : Int) ((12 : Int) + (5 : Int) * ((1 : Int) + List.getD cut (0 : Nat) (0 : Int) % (↑(List.length ds) : Int)) + List.getD cut (1 : Nat) (0 : Int) % (5 : Int)))) (hid stream (Array.toList (ByteArray.data { data := #[(100 : UInt8), (97 : UInt8), (121 : UInt8)] })) fr (hid pcks ds g))))) then true else Prod.fst (Prod.fst (hid rebuilt (List.take (Int.toNat (min (↑(List.length (hid stream (Array.toList (ByteArray.data { data := #[(100 : UInt8), (97 : UInt8), (121 : UInt8)] })) fr (hid pcks ds g))) : Int) ((12 : Int) + (5 : Int) * ((1 : Int) + List.getD cut (0 : Nat) (0 : Int) % (↑(List.length ds) : Int)) + List.getD cut (1 : Nat) (0 : Int) % (5 : Int)))) (hid stream (Array.toList (ByteArray.data { data := #[(100 : UInt8), (97 : UInt8), (121 : UInt8)] })) fr (hid pcks ds g))))) != Array.toList (ByteArray.data { data := #[(100 : UInt8), (97 : UInt8), (121 : UInt8)] }) then true else Prod.fst (Prod.snd (Prod.fst (hid rebuilt (List.take (Int.toNat (min (↑(List.length (hid stream (Array.toList (ByteArray.data { data := #[(100 : UInt8), (97 : UInt8), (121 : UInt8)] })) fr (hid pcks ds g))) : Int) ((12 : Int) + (5 : Int) * ((1 : Int) + List.getD cut (0 : Nat) (0 : Int) % (↑(List.length ds) : Int)) + List.getD cut (1 : Nat) (0 : Int) % (5 : Int)))) (hid stream (Array.toList (ByteArray.data { data := #[(100 : UInt8), (97 : UInt8), (121 : UInt8)] })) fr (hid pcks ds g)))))) != fr) = false → List.length (List.take (Int.toNat ((1 : Int) + List.getD cut (0 : Nat) (0 : Int) % (↑(List.length ds) : Int))) (hid pcks ds g)) = Int.toNat ((1 : Int) + List.getD cut (0 : Nat) (0 : Int) % (↑(List.length ds) : Int))) ∧ ((bif bif bif Prod.snd (Prod.snd (hid rebuilt (List.take (Int.toNat (min (↑(List.length (hid stream (Array.toList (ByteArray.data { data := #[(100 : UInt8), (97 : UInt8), (121 : UInt8)] })) fr (hid pcks ds g))) : Int) ((12 : Int) + (5 : Int) * ((1 : Int) + List.getD cut (0 : Nat) (0 : Int) % (↑(List.length ds) : Int)) + List.getD cut (1 : Nat) (0 : Int) % (5 : Int)))) (hid stream (Array.toList (ByteArray.data { data := #[(100 : UInt8), (97 : UInt8), (121 : UInt8)] })) fr (hid pcks ds g))))) != (0 : Int) then true else Prod.fst (Prod.snd (hid rebuilt (List.take (Int.toNat (min (↑(List.length (hid stream (Array.toList (ByteArray.data { data := #[(100 : UInt8), (97 : UInt8), (121 : UInt8)] })) fr (hid pcks ds g))) : Int) ((12 : Int) + (5 : Int) * ((1 : Int) + List.getD cut (0 : Nat) (0 : Int) % (↑(List.length ds) : Int)) + List.getD cut (1 : Nat) (0 : Int) % (5 : Int)))) (hid stream (Array.toList (ByteArray.data { data := #[(100 : UInt8), (97 : UInt8), (121 : UInt8)] })) fr (hid pcks ds g))))) then true else Prod.fst (Prod.fst (hid rebuilt (List.take (Int.toNat (min (↑(List.length (hid stream (Array.toList (ByteArray.data { data := #[(100 : UInt8), (97 : UInt8), (121 : UInt8)] })) fr (hid pcks ds g))) : Int) ((12 : Int) + (5 : Int) * ((1 : Int) + List.getD cut (0 : Nat) (0 : Int) % (↑(List.length ds) : Int)) + List.getD cut (1 : Nat) (0 : Int) % (5 : Int)))) (hid stream (Array.toList (ByteArray.data { data := #[(100 : UInt8), (97 : UInt8), (121 : UInt8)] })) fr (hid pcks ds g))))) != Array.toList (ByteArray.data { data := #[(100 : UInt8), (97 : UInt8), (121 : UInt8)] }) then true else Prod.fst (Prod.snd (Prod.fst (hid rebuilt (List.take (Int.toNat (min (↑(List.length (hid stream (Array.toList (ByteArray.data { data := #[(100 : UInt8), (97 : UInt8), (121 : UInt8)] })) fr (hid pcks ds g))) : Int) ((12 : Int) + (5 : Int) * ((1 : Int) + List.getD cut (0 : Nat) (0 : Int) % (↑(List.length ds) : Int)) + List.getD cut (1 : Nat) (0 : Int) % (5 : Int)))) (hid stream (Array.toList (ByteArray.data { data := #[(100 : UInt8), (97 : UInt8), (121 : UInt8)] })) fr (hid pcks ds g)))))) != fr) = false → List.length (Prod.snd (Prod.snd (Prod.fst (hid rebuilt (List.take (Int.toNat (min (↑(List.length (hid stream (Array.toList (ByteArray.data { data := #[(100 : UInt8), (97 : UInt8), (121 : UInt8)] })) fr (hid pcks ds g))) : Int) ((12 : Int) + (5 : Int) * ((1 : Int) + List.getD cut (0 : Nat) (0 : Int) % (↑(List.length ds) : Int)) + List.getD cut (1 : Nat) (0 : Int) % (5 : Int)))) (hid stream (Array.toList (ByteArray.data { data := #[(100 : UInt8), (97 : UInt8), (121 : UInt8)] })) fr (hid pcks ds g))))))) ≤ (1000000000 : Nat)) ∧ splitB (bif bif bif bif Prod.snd (Prod.snd (hid rebuilt (List.take (Int.toNat (min (↑(List.length (hid stream (Array.toList (ByteArray.data { data := #[(100 : UInt8), (97 : UInt8), (121 : UInt8)] })) fr (hid pcks ds g))) : Int) ((12 : Int) + (5 : Int) * ((1 : Int) + List.getD cut (0 : Nat) (0 : Int) % (↑(List.length ds) : Int)) + List.getD cut (1 : Nat) (0 : Int) % (5 : Int)))) (hid stream (Array.toList (ByteArray.data { data := #[(100 : UInt8), (97 : UInt8), (121 : UInt8)] })) fr (hid pcks ds g))))) != (0 : Int) then true else Prod.fst (Prod.snd (hid rebuilt (List.take (Int.toNat (min (↑(List.length (hid stream (Array.toList (ByteArray.data { data := #[(100 : UInt8), (97 : UInt8), (121 : UInt8)] })) fr (hid pcks ds g))) : Int) ((12 : Int) + (5 : Int) * ((1 : Int) + List.getD cut (0 : Nat) (0 : Int) % (↑(List.length ds) : Int)) + List.getD cut (1 : Nat) (0 : Int) % (5 : Int)))) (hid stream (Array.toList (ByteArray.data { data := #[(100 : UInt8), (97 : UInt8), (121 : UInt8)] })) fr (hid pcks ds g))))) then true else Prod.fst (Prod.fst (hid rebuilt (List.take (Int.toNat (min (↑(List.length (hid stream (Array.toList (ByteArray.data { data := #[(100 : UInt8), (97 : UInt8), (121 : UInt8)] })) fr (hid pcks ds g))) : Int) ((12 : Int) + (5 : Int) * ((1 : Int) + List.getD cut (0 : Nat) (0 : Int) % (↑(List.length ds) : Int)) + List.getD cut (1 : Nat) (0 : Int) % (5 : Int)))) (hid stream (Array.toList (ByteArray.data { data := #[(100 : UInt8), (97 : UInt8), (121 : UInt8)] })) fr (hid pcks ds g))))) != Array.toList (ByteArray.data { data := #[(100 : UInt8), (97 : UInt8), (121 : UInt8)] }) then true else Prod.fst (Prod.snd (Prod.fst (hid rebuilt (List.take (Int.toNat (min (↑(List.length (hid stream (Array.toList (ByteArray.data { data := #[(100 : UInt8), (97 : UInt8), (121 : UInt8)] })) fr (hid pcks ds g))) : Int) ((12 : Int) + (5 : Int) * ((1 : Int) + List.getD cut (0 : Nat) (0 : Int) % (↑(List.length ds) : Int)) + List.getD cut (1 : Nat) (0 : Int) % (5 : Int)))) (hid stream (Array.toList (ByteArray.data { data := #[(100 : UInt8), (97 : UInt8), (121 : UInt8)] })) fr (hid pcks ds g)))))) != fr then true else !decide (Prod.snd (Prod.snd (Prod.fst (hid rebuilt (List.take (Int.toNat (min (↑(List.length (hid stream (Array.toList (ByteArray.data { data := #[(100 : UInt8), (97 : UInt8), (121 : UInt8)] })) fr (hid pcks ds g))) : Int) ((12 : Int) + (5 : Int) * ((1 : Int) + List.getD cut (0 : Nat) (0 : Int) % (↑(List.length ds) : Int)) + List.getD cut (1 : Nat) (0 : Int) % (5 : Int)))) (hid stream (Array.toList (ByteArray.data { data := #[(100 : UInt8), (97 : UInt8), (121 : UInt8)] })) fr (hid pcks ds g)))))) = List.take (Int.toNat ((1 : Int) + List.getD cut (0 : Nat) (0 : Int) % (↑(List.length ds) : Int))) (hid pcks ds g))) (false = true ∧ True) (((0 : Int) ≤ (0 : Int) ∧ (0 : Int) ≤ (12 : Int) + (5 : Int) * ((1 : Int) + List.getD cut (0 : Nat) (0 : Int) % (↑(List.length ds) : Int)) + List.getD cut (1 : Nat) (0 : Int) % (5 : Int) ∧ (12 : Int) + (5 : Int) * ((1 : Int) + List.getD cut (0 : Nat) (0 : Int) % (↑(List.length ds) : Int)) + List.getD cut (1 : Nat) (0 : Int) % (5 : Int) ≤ (↑(List.length (hid stream (Array.toList (ByteArray.data { data := #[(100 : UInt8), (97 : UInt8), (121 : UInt8)] })) fr (hid pcks ds g))) : Int)) ∧ List.length (List.take (Int.toNat ((12 : Int) + (5 : Int) * ((1 : Int) + List.getD cut (0 : Nat) (0 : Int) % (↑(List.length ds) : Int)) + List.getD cut (1 : Nat) (0 : Int) % (5 : Int))) (hid stream (Array.toList (ByteArray.data { data := #[(100 : UInt8), (97 : UInt8), (121 : UInt8)] })) fr (hid pcks ds g))) = Int.toNat ((12 : Int) + (5 : Int) * ((1 : Int) + List.getD cut (0 : Nat) (0 : Int) % (↑(List.length ds) : Int)) + List.getD cut (1 : Nat) (0 : Int) % (5 : Int)) ∧ (List.length (List.take (Int.toNat ((12 : Int) + (5 : Int) * ((1 : Int) + List.getD cut (0 : Nat) (0 : Int) % (↑(List.length ds) : Int)) + List.getD cut (1 : Nat) (0 : Int) % (5 : Int))) (hid stream (Array.toList (ByteArray.data { data := #[(100 : UInt8), (97 : UInt8), (121 : UInt8)] })) fr (hid pcks ds g))) ≤ (1000000 : Nat) ∧ Bytes (List.take (Int.toNat ((12 : Int) + (5 : Int) * ((1 : Int) + List.getD cut (0 : Nat) (0 : Int) % (↑(List.length ds) : Int)) + List.getD cut (1 : Nat) (0 : Int) % (5 : Int))) (hid stream (Array.toList (ByteArray.data { data := #[(100 : UInt8), (97 : UInt8), (121 : UInt8)] })) fr (hid pcks ds g)))) ∧ splitB (Prod.snd (hid readS (List.take (Int.toNat ((12 : Int) + (5 : Int) * ((1 : Int) + List.getD cut (0 : Nat) (0 : Int) % (↑(List.length ds) : Int)) + List.getD cut (1 : Nat) (0 : Int) % (5 : Int))) (hid stream (Array.toList (ByteArray.data { data := #[(100 : UInt8), (97 : UInt8), (121 : UInt8)] })) fr (hid pcks ds g)))) != (28 : Int)) (false = true ∧ True) (room ((0 : Nat) + List.length (hid stream (Array.toList (ByteArray.data { data := #[(100 : UInt8), (97 : UInt8), (121 : UInt8)] })) fr (hid pcks ds g))) (1 : Nat) ∧ (List.length (hid stream (Array.toList (ByteArray.data { data := #[(100 : UInt8), (97 : UInt8), (121 : UInt8)] })) fr (hid pcks ds g)) ≤ (1000000 : Nat) ∧ Bytes (hid stream (Array.toList (ByteArray.data { data := #[(100 : UInt8), (97 : UInt8), (121 : UInt8)] })) fr (hid pcks ds g))) ∧ ((Prod.snd (hid readS (hid stream (Array.toList (ByteArray.data { data := #[(100 : UInt8), (97 : UInt8), (121 : UInt8)] })) fr (hid pcks ds g))) != (0 : Int)) = false → List.length (Prod.snd (Prod.snd (Prod.fst (hid readS (hid stream (Array.toList (ByteArray.data { data := #[(100 : UInt8), (97 : UInt8), (121 : UInt8)] })) fr (hid pcks ds g)))))) ≤ (1000000000 : Nat)) ∧ splitB (bif Prod.snd (hid readS (hid stream (Array.toList (ByteArray.data { data := #[(100 : UInt8), (97 : UInt8), (121 : UInt8)] })) fr (hid pcks ds g))) != (0 : Int) then true else !decide (Prod.snd (Prod.snd (Prod.fst (hid readS (hid stream (Array.toList (ByteArray.data { data := #[(100 : UInt8), (97 : UInt8), (121 : UInt8)] })) fr (hid pcks ds g))))) = hid pcks ds g)) (false = true ∧ True) (fits IntKind.i64 ((16 : Int) * ((1 : Int) + List.getD cut (0 : Nat) (0 : Int) % (↑(List.length ds) : Int))) ∧ fits IntKind.i64 ((3 : Int) * (List.getD cut (1 : Nat) (0 : Int) % (5 : Int))) ∧ fits IntKind.i64 ((16 : Int) * ((1 : Int) + List.getD cut (0 : Nat) (0 : Int) % (↑(List.length ds) : Int)) + (3 : Int) * (List.getD cut (1 : Nat) (0 : Int) % (5 : Int))) ∧ ((0 : Int) ≤ (0 : Int) ∧ (0 : Int) ≤ min (↑(List.length (hid sent ds g)) : Int) ((16 : Int) * ((1 : Int) + List.getD cut (0 : Nat) (0 : Int) % (↑(List.length ds) : Int)) + (3 : Int) * (List.getD cut (1 : Nat) (0 : Int) % (5 : Int))) ∧ min (↑(List.length (hid sent ds g)) : Int) ((16 : Int) * ((1 : Int) + List.getD cut (0 : Nat) (0 : Int) % (↑(List.length ds) : Int)) + (3 : Int) * (List.getD cut (1 : Nat) (0 : Int) % (5 : Int))) ≤ (↑(List.length (hid sent ds g)) : Int)) ∧ List.length (List.take (Int.toNat (min (↑(List.length (hid sent ds g)) : Int) ((16 : Int) * ((1 : Int) + List.getD cut (0 : Nat) (0 : Int) % (↑(List.length ds) : Int)) + (3 : Int) * (List.getD cut (1 : Nat) (0 : Int) % (5 : Int))))) (hid sent ds g)) = Int.toNat (min (↑(List.length (hid sent ds g)) : Int) ((16 : Int) * ((1 : Int) + List.getD cut (0 : Nat) (0 : Int) % (↑(List.length ds) : Int)) + (3 : Int) * (List.getD cut (1 : Nat) (0 : Int) % (5 : Int)))) ∧ room ((0 : Nat) + List.length (List.take (Int.toNat (min (↑(List.length (hid sent ds g)) : Int) ((16 : Int) * ((1 : Int) + List.getD cut (0 : Nat) (0 : Int) % (↑(List.length ds) : Int)) + (3 : Int) * (List.getD cut (1 : Nat) (0 : Int) % (5 : Int))))) (hid sent ds g))) (1 : Nat) ∧ (Bytes (List.take (Int.toNat (min (↑(List.length (hid sent ds g)) : Int) ((16 : Int) * ((1 : Int) + List.getD cut (0 : Nat) (0 : Int) % (↑(List.length ds) : Int)) + (3 : Int) * (List.getD cut (1 : Nat) (0 : Int) % (5 : Int))))) (hid sent ds g)) ∧ List.length (List.take (Int.toNat (min (↑(List.length (hid sent ds g)) : Int) ((16 : Int) * ((1 : Int) + List.getD cut (0 : Nat) (0 : Int) % (↑(List.length ds) : Int)) + (3 : Int) * (List.getD cut (1 : Nat) (0 : Int) % (5 : Int))))) (hid sent ds g)) ≤ (1000000000 : Nat)) ∧ (List.length (Prod.fst (hid received (List.take (Int.toNat (min (↑(List.length (hid sent ds g)) : Int) ((16 : Int) * ((1 : Int) + List.getD cut (0 : Nat) (0 : Int) % (↑(List.length ds) : Int)) + (3 : Int) * (List.getD cut (1 : Nat) (0 : Int) % (5 : Int))))) (hid sent ds g)))) ≤ (1024 : Nat) ∧ (∀ (p : Pk), p ∈ Prod.fst (hid received (List.take (Int.toNat (min (↑(List.length (hid sent ds g)) : Int) ((16 : Int) * ((1 : Int) + List.getD cut (0 : Nat) (0 : Int) % (↑(List.length ds) : Int)) + (3 : Int) * (List.getD cut (1 : Nat) (0 : Int) % (5 : Int))))) (hid sent ds g))) → Prod.fst p = (1 : Int) ∧ pcheck (Prod.fst p) (Prod.fst (Prod.snd p)) = (0 : Int)) ∧ within (1 : Int) (0 : Int) (255 : Int) = (0 : Int) ∧ List.length (lostTo (Prod.fst (hid received (List.take (Int.toNat (min (↑(List.length (hid sent ds g)) : Int) ((16 : Int) * ((1 : Int) + List.getD cut (0 : Nat) (0 : Int) % (↑(List.length ds) : Int)) + (3 : Int) * (List.getD cut (1 : Nat) (0 : Int) % (5 : Int))))) (hid sent ds g)))) (List.length (Prod.fst (hid received (List.take (Int.toNat (min (↑(List.length (hid sent ds g)) : Int) ((16 : Int) * ((1 : Int) + List.getD cut (0 : Nat) (0 : Int) % (↑(List.length ds) : Int)) + (3 : Int) * (List.getD cut (1 : Nat) (0 : Int) % (5 : Int))))) (hid sent ds g)))) - (1 : Nat))) ≤ (256 : Nat)) ∧ splitB (bif bif bif Prod.snd (Prod.snd (hid received (List.take (Int.toNat (min (↑(List.length (hid sent ds g)) : Int) ((16 : Int) * ((1 : Int) + List.getD cut (0 : Nat) (0 : Int) % (↑(List.length ds) : Int)) + (3 : Int) * (List.getD cut (1 : Nat) (0 : Int) % (5 : Int))))) (hid sent ds g)))) != (0 : Int) then true else (0 : Int) != (0 : Int) then true else (↑(List.length (Prod.fst (hid received (List.take (Int.toNat (min (↑(List.length (hid sent ds g)) : Int) ((16 : Int) * ((1 : Int) + List.getD cut (0 : Nat) (0 : Int) % (↑(List.length ds) : Int)) + (3 : Int) * (List.getD cut (1 : Nat) (0 : Int) % (5 : Int))))) (hid sent ds g))))) : Int) != (1 : Int) + List.getD cut (0 : Nat) (0 : Int) % (↑(List.length ds) : Int) then true else decide ((0 : Int) < (↑(List.length (hid lostTo (Prod.fst (hid received (List.take (Int.toNat (min (↑(List.length (hid sent ds g)) : Int) ((16 : Int) * ((1 : Int) + List.getD cut (0 : Nat) (0 : Int) % (↑(List.length ds) : Int)) + (3 : Int) * (List.getD cut (1 : Nat) (0 : Int) % (5 : Int))))) (hid sent ds g)))) (List.length (Prod.fst (hid received (List.take (Int.toNat (min (↑(List.length (hid sent ds g)) : Int) ((16 : Int) * ((1 : Int) + List.getD cut (0 : Nat) (0 : Int) % (↑(List.length ds) : Int)) + (3 : Int) * (List.getD cut (1 : Nat) (0 : Int) % (5 : Int))))) (hid sent ds g)))) - (1 : Nat)))) : Int))) (false = true ∧ True) (fits IntKind.i64 ((16 : Int) * ((1 : Int) + List.getD cut (0 : Nat) (0 : Int) % (↑(List.length ds) : Int))) ∧ ((bif min (↑(List.length (hid sent ds g)) : Int) ((16 : Int) * ((1 : Int) + List.getD cut (0 : Nat) (0 : Int) % (↑(List.length ds) : Int)) + (3 : Int) * (List.getD cut (1 : Nat) (0 : Int) % (5 : Int))) == (16 : Int) * ((1 : Int) + List.getD cut (0 : Nat) (0 : Int) % (↑(List.length ds) : Int)) then decide ((0 : Int) < (↑(List.length (Prod.fst (Prod.snd (hid received (List.take (Int.toNat (min (↑(List.length (hid sent ds g)) : Int) ((16 : Int) * ((1 : Int) + List.getD cut (0 : Nat) (0 : Int) % (↑(List.length ds) : Int)) + (3 : Int) * (List.getD cut (1 : Nat) (0 : Int) % (5 : Int))))) (hid sent ds g)))))) : Int)) else false) = false → fits IntKind.i64 ((16 : Int) * ((1 : Int) + List.getD cut (0 : Nat) (0 : Int) % (↑(List.length ds) : Int)))) ∧ ((bif min (↑(List.length (hid sent ds g)) : Int) ((16 : Int) * ((1 : Int) + List.getD cut (0 : Nat) (0 : Int) % (↑(List.length ds) : Int)) + (3 : Int) * (List.getD cut (1 : Nat) (0 : Int) % (5 : Int))) == (16 : Int) * ((1 : Int) + List.getD cut (0 : Nat) (0 : Int) % (↑(List.length ds) : Int)) then decide ((0 : Int) < (↑(List.length (Prod.fst (Prod.snd (hid received (List.take (Int.toNat (min (↑(List.length (hid sent ds g)) : Int) ((16 : Int) * ((1 : Int) + List.getD cut (0 : Nat) (0 : Int) % (↑(List.length ds) : Int)) + (3 : Int) * (List.getD cut (1 : Nat) (0 : Int) % (5 : Int))))) (hid sent ds g)))))) : Int)) else false) = false → decide ((16 : Int) * ((1 : Int) + List.getD cut (0 : Nat) (0 : Int) % (↑(List.length ds) : Int)) < min (↑(List.length (hid sent ds g)) : Int) ((16 : Int) * ((1 : Int) + List.getD cut (0 : Nat) (0 : Int) % (↑(List.length ds) : Int)) + (3 : Int) * (List.getD cut (1 : Nat) (0 : Int) % (5 : Int)))) = true → ((↑(List.length (Prod.fst (Prod.snd (hid received (List.take (Int.toNat (min (↑(List.length (hid sent ds g)) : Int) ((16 : Int) * ((1 : Int) + List.getD cut (0 : Nat) (0 : Int) % (↑(List.length ds) : Int)) + (3 : Int) * (List.getD cut (1 : Nat) (0 : Int) % (5 : Int))))) (hid sent ds g)))))) : Int) != (1 : Int)) = false → (0 : Int) ≤ (0 : Int) ∧ (0 : Int) < (↑(List.length (Prod.fst (Prod.snd (hid received (List.take (Int.toNat (min (↑(List.length (hid sent ds g)) : Int) ((16 : Int) * ((1 : Int) + List.getD cut (0 : Nat) (0 : Int) % (↑(List.length ds) : Int)) + (3 : Int) * (List.getD cut (1 : Nat) (0 : Int) % (5 : Int))))) (hid sent ds g)))))) : Int)) ∧ ((bif min (↑(List.length (hid sent ds g)) : Int) ((16 : Int) * ((1 : Int) + List.getD cut (0 : Nat) (0 : Int) % (↑(List.length ds) : Int)) + (3 : Int) * (List.getD cut (1 : Nat) (0 : Int) % (5 : Int))) == (16 : Int) * ((1 : Int) + List.getD cut (0 : Nat) (0 : Int) % (↑(List.length ds) : Int)) then decide ((0 : Int) < (↑(List.length (Prod.fst (Prod.snd (hid received (List.take (Int.toNat (min (↑(List.length (hid sent ds g)) : Int) ((16 : Int) * ((1 : Int) + List.getD cut (0 : Nat) (0 : Int) % (↑(List.length ds) : Int)) + (3 : Int) * (List.getD cut (1 : Nat) (0 : Int) % (5 : Int))))) (hid sent ds g)))))) : Int)) else false) = false → decide ((16 : Int) * ((1 : Int) + List.getD cut (0 : Nat) (0 : Int) % (↑(List.length ds) : Int)) < min (↑(List.length (hid sent ds g)) : Int) ((16 : Int) * ((1 : Int) + List.getD cut (0 : Nat) (0 : Int) % (↑(List.length ds) : Int)) + (3 : Int) * (List.getD cut (1 : Nat) (0 : Int) % (5 : Int)))) = true → ((↑(List.length (Prod.fst (Prod.snd (hid received (List.take (Int.toNat (min (↑(List.length (hid sent ds g)) : Int) ((16 : Int) * ((1 : Int) + List.getD cut (0 : Nat) (0 : Int) % (↑(List.length ds) : Int)) + (3 : Int) * (List.getD cut (1 : Nat) (0 : Int) % (5 : Int))))) (hid sent ds g)))))) : Int) != (1 : Int)) = false → (0 : Nat) < List.length (Prod.fst (Prod.snd (hid received (List.take (Int.toNat (min (↑(List.length (hid sent ds g)) : Int) ((16 : Int) * ((1 : Int) + List.getD cut (0 : Nat) (0 : Int) % (↑(List.length ds) : Int)) + (3 : Int) * (List.getD cut (1 : Nat) (0 : Int) % (5 : Int))))) (hid sent ds g)))))) ∧ ((bif min (↑(List.length (hid sent ds g)) : Int) ((16 : Int) * ((1 : Int) + List.getD cut (0 : Nat) (0 : Int) % (↑(List.length ds) : Int)) + (3 : Int) * (List.getD cut (1 : Nat) (0 : Int) % (5 : Int))) == (16 : Int) * ((1 : Int) + List.getD cut (0 : Nat) (0 : Int) % (↑(List.length ds) : Int)) then decide ((0 : Int) < (↑(List.length (Prod.fst (Prod.snd (hid received (List.take (Int.toNat (min (↑(List.length (hid sent ds g)) : Int) ((16 : Int) * ((1 : Int) + List.getD cut (0 : Nat) (0 : Int) % (↑(List.length ds) : Int)) + (3 : Int) * (List.getD cut (1 : Nat) (0 : Int) % (5 : Int))))) (hid sent ds g)))))) : Int)) else false) = false → decide ((16 : Int) * ((1 : Int) + List.getD cut (0 : Nat) (0 : Int) % (↑(List.length ds) : Int)) < min (↑(List.length (hid sent ds g)) : Int) ((16 : Int) * ((1 : Int) + List.getD cut (0 : Nat) (0 : Int) % (↑(List.length ds) : Int)) + (3 : Int) * (List.getD cut (1 : Nat) (0 : Int) % (5 : Int)))) = true → ((↑(List.length (Prod.fst (Prod.snd (hid received (List.take (Int.toNat (min (↑(List.length (hid sent ds g)) : Int) ((16 : Int) * ((1 : Int) + List.getD cut (0 : Nat) (0 : Int) % (↑(List.length ds) : Int)) + (3 : Int) * (List.getD cut (1 : Nat) (0 : Int) % (5 : Int))))) (hid sent ds g)))))) : Int) != (1 : Int)) = false → fits IntKind.i64 ((16 : Int) * ((1 : Int) + List.getD cut (0 : Nat) (0 : Int) % (↑(List.length ds) : Int)))) ∧ splitB (bif bif min (↑(List.length (hid sent ds g)) : Int) ((16 : Int) * ((1 : Int) + List.getD cut (0 : Nat) (0 : Int) % (↑(List.length ds) : Int)) + (3 : Int) * (List.getD cut (1 : Nat) (0 : Int) % (5 : Int))) == (16 : Int) * ((1 : Int) + List.getD cut (0 : Nat) (0 : Int) % (↑(List.length ds) : Int)) then decide ((0 : Int) < (↑(List.length (Prod.fst (Prod.snd (hid received (List.take (Int.toNat (min (↑(List.length (hid sent ds g)) : Int) ((16 : Int) * ((1 : Int) + List.getD cut (0 : Nat) (0 : Int) % (↑(List.length ds) : Int)) + (3 : Int) * (List.getD cut (1 : Nat) (0 : Int) % (5 : Int))))) (hid sent ds g)))))) : Int)) else false then true else bif decide ((16 : Int) * ((1 : Int) + List.getD cut (0 : Nat) (0 : Int) % (↑(List.length ds) : Int)) < min (↑(List.length (hid sent ds g)) : Int) ((16 : Int) * ((1 : Int) + List.getD cut (0 : Nat) (0 : Int) % (↑(List.length ds) : Int)) + (3 : Int) * (List.getD cut (1 : Nat) (0 : Int) % (5 : Int)))) then bif (↑(List.length (Prod.fst (Prod.snd (hid received (List.take (Int.toNat (min (↑(List.length (hid sent ds g)) : Int) ((16 : Int) * ((1 : Int) + List.getD cut (0 : Nat) (0 : Int) % (↑(List.length ds) : Int)) + (3 : Int) * (List.getD cut (1 : Nat) (0 : Int) % (5 : Int))))) (hid sent ds g)))))) : Int) != (1 : Int) then true else !eqT (Ty.pair (Ty.int IntKind.i64) (Ty.int IntKind.i64)) (Prod.fst (List.getD (Prod.fst (Prod.snd (hid received (List.take (Int.toNat (min (↑(List.length (hid sent ds g)) : Int) ((16 : Int) * ((1 : Int) + List.getD cut (0 : Nat) (0 : Int) % (↑(List.length ds) : Int)) + (3 : Int) * (List.getD cut (1 : Nat) (0 : Int) % (5 : Int))))) (hid sent ds g))))) (0 : Nat) ((0 : Int), (0 : Int))), Prod.snd (List.getD (Prod.fst (Prod.snd (hid received (List.take (Int.toNat (min (↑(List.length (hid sent ds g)) : Int) ((16 : Int) * ((1 : Int) + List.getD cut (0 : Nat) (0 : Int) % (↑(List.length ds) : Int)) + (3 : Int) * (List.getD cut (1 : Nat) (0 : Int) % (5 : Int))))) (hid sent ds g))))) (0 : Nat) ((0 : Int), (0 : Int)))) ((16 : Int) * ((1 : Int) + List.getD cut (0 : Nat) (0 : Int) % (↑(List.length ds) : Int)), min (↑(List.length (hid sent ds g)) : Int) ((16 : Int) * ((1 : Int) + List.getD cut (0 : Nat) (0 : Int) % (↑(List.length ds) : Int)) + (3 : Int) * (List.getD cut (1 : Nat) (0 : Int) % (5 : Int)))) else false) (false = true ∧ True) ((∃ (g_1 : Nat × List Pk × List UInt8 × Int × List Int), (Prod.fst g_1 ≤ List.length (Prod.fst (Prod.snd g_1)) ∧ Prod.snd g_1 = (Prod.fst (hid received (List.take (Int.toNat (min (↑(List.length (hid sent ds g)) : Int) ((16 : Int) * ((1 : Int) + List.getD cut (0 : Nat) (0 : Int) % (↑(List.length ds) : Int)) + (3 : Int) * (List.getD cut (1 : Nat) (0 : Int) % (5 : Int))))) (hid sent ds g))), Prod.fst (Prod.fst (hid rebuilt (List.take (Int.toNat (min (↑(List.length (hid stream (Array.toList (ByteArray.data { data := #[(100 : UInt8), (97 : UInt8), (121 : UInt8)] })) fr (hid pcks ds g))) : Int) ((12 : Int) + (5 : Int) * ((1 : Int) + List.getD cut (0 : Nat) (0 : Int) % (↑(List.length ds) : Int)) + List.getD cut (1 : Nat) (0 : Int) % (5 : Int)))) (hid stream (Array.toList (ByteArray.data { data := #[(100 : UInt8), (97 : UInt8), (121 : UInt8)] })) fr (hid pcks ds g))))), Prod.fst (Prod.snd (Prod.fst (hid rebuilt (List.take (Int.toNat (min (↑(List.length (hid stream (Array.toList (ByteArray.data { data := #[(100 : UInt8), (97 : UInt8), (121 : UInt8)] })) fr (hid pcks ds g))) : Int) ((12 : Int) + (5 : Int) * ((1 : Int) + List.getD cut (0 : Nat) (0 : Int) % (↑(List.length ds) : Int)) + List.getD cut (1 : Nat) (0 : Int) % (5 : Int)))) (hid stream (Array.toList (ByteArray.data { data := #[(100 : UInt8), (97 : UInt8), (121 : UInt8)] })) fr (hid pcks ds g)))))), Prod.snd (Prod.snd (Prod.fst (hid rebuilt (List.take (Int.toNat (min (↑(List.length (hid stream (Array.toList (ByteArray.data { data := #[(100 : UInt8), (97 : UInt8), (121 : UInt8)] })) fr (hid pcks ds g))) : Int) ((12 : Int) + (5 : Int) * ((1 : Int) + List.getD cut (0 : Nat) (0 : Int) % (↑(List.length ds) : Int)) + List.getD cut (1 : Nat) (0 : Int) % (5 : Int)))) (hid stream (Array.toList (ByteArray.data { data := #[(100 : UInt8), (97 : UInt8), (121 : UInt8)] })) fr (hid pcks ds g)))))))) ∧ (0 : Int) = (↑(Prod.fst g_1) : Int) ∧ (↑(List.length (Prod.fst (hid received (List.take (Int.toNat (min (↑(List.length (hid sent ds g)) : Int) ((16 : Int) * ((1 : Int) + List.getD cut (0 : Nat) (0 : Int) % (↑(List.length ds) : Int)) + (3 : Int) * (List.getD cut (1 : Nat) (0 : Int) % (5 : Int))))) (hid sent ds g))))) : Int) = (↑(List.length (Prod.fst (Prod.snd g_1))) : Int) ∧ Prod.fst (hid received (List.take (Int.toNat (min (↑(List.length (hid sent ds g)) : Int) ((16 : Int) * ((1 : Int) + List.getD cut (0 : Nat) (0 : Int) % (↑(List.length ds) : Int)) + (3 : Int) * (List.getD cut (1 : Nat) (0 : Int) % (5 : Int))))) (hid sent ds g))) = Prod.fst (Prod.snd g_1) ∧ Prod.fst (Prod.fst (hid rebuilt (List.take (Int.toNat (min (↑(List.length (hid stream (Array.toList (ByteArray.data { data := #[(100 : UInt8), (97 : UInt8), (121 : UInt8)] })) fr (hid pcks ds g))) : Int) ((12 : Int) + (5 : Int) * ((1 : Int) + List.getD cut (0 : Nat) (0 : Int) % (↑(List.length ds) : Int)) + List.getD cut (1 : Nat) (0 : Int) % (5 : Int)))) (hid stream (Array.toList (ByteArray.data { data := #[(100 : UInt8), (97 : UInt8), (121 : UInt8)] })) fr (hid pcks ds g))))) = Prod.fst (Prod.snd (Prod.snd g_1)) ∧ Prod.fst (Prod.snd (Prod.fst (hid rebuilt (List.take (Int.toNat (min (↑(List.length (hid stream (Array.toList (ByteArray.data { data := #[(100 : UInt8), (97 : UInt8), (121 : UInt8)] })) fr (hid pcks ds g))) : Int) ((12 : Int) + (5 : Int) * ((1 : Int) + List.getD cut (0 : Nat) (0 : Int) % (↑(List.length ds) : Int)) + List.getD cut (1 : Nat) (0 : Int) % (5 : Int)))) (hid stream (Array.toList (ByteArray.data { data := #[(100 : UInt8), (97 : UInt8), (121 : UInt8)] })) fr (hid pcks ds g)))))) = Prod.fst (Prod.snd (Prod.snd (Prod.snd g_1))) ∧ Prod.snd (Prod.snd (Prod.fst (hid rebuilt (List.take (Int.toNat (min (↑(List.length (hid stream (Array.toList (ByteArray.data { data := #[(100 : UInt8), (97 : UInt8), (121 : UInt8)] })) fr (hid pcks ds g))) : Int) ((12 : Int) + (5 : Int) * ((1 : Int) + List.getD cut (0 : Nat) (0 : Int) % (↑(List.length ds) : Int)) + List.getD cut (1 : Nat) (0 : Int) % (5 : Int)))) (hid stream (Array.toList (ByteArray.data { data := #[(100 : UInt8), (97 : UInt8), (121 : UInt8)] })) fr (hid pcks ds g)))))) = Prod.snd (Prod.snd (Prod.snd (Prod.snd g_1))) ∧ True) ∧ ∀ (g_1 : Nat × List Pk × List UInt8 × Int × List Int), Prod.fst g_1 ≤ List.length (Prod.fst (Prod.snd g_1)) ∧ Prod.snd g_1 = (Prod.fst (hid received (List.take (Int.toNat (min (↑(List.length (hid sent ds g)) : Int) ((16 : Int) * ((1 : Int) + List.getD cut (0 : Nat) (0 : Int) % (↑(List.length ds) : Int)) + (3 : Int) * (List.getD cut (1 : Nat) (0 : Int) % (5 : Int))))) (hid sent ds g))), Prod.fst (Prod.fst (hid rebuilt (List.take (Int.toNat (min (↑(List.length (hid stream (Array.toList (ByteArray.data { data := #[(100 : UInt8), (97 : UInt8), (121 : UInt8)] })) fr (hid pcks ds g))) : Int) ((12 : Int) + (5 : Int) * ((1 : Int) + List.getD cut (0 : Nat) (0 : Int) % (↑(List.length ds) : Int)) + List.getD cut (1 : Nat) (0 : Int) % (5 : Int)))) (hid stream (Array.toList (ByteArray.data { data := #[(100 : UInt8), (97 : UInt8), (121 : UInt8)] })) fr (hid pcks ds g))))), Prod.fst (Prod.snd (Prod.fst (hid rebuilt (List.take (Int.toNat (min (↑(List.length (hid stream (Array.toList (ByteArray.data { data := #[(100 : UInt8), (97 : UInt8), (121 : UInt8)] })) fr (hid pcks ds g))) : Int) ((12 : Int) + (5 : Int) * ((1 : Int) + List.getD cut (0 : Nat) (0 : Int) % (↑(List.length ds) : Int)) + List.getD cut (1 : Nat) (0 : Int) % (5 : Int)))) (hid stream (Array.toList (ByteArray.data { data := #[(100 : UInt8), (97 : UInt8), (121 : UInt8)] })) fr (hid pcks ds g)))))), Prod.snd (Prod.snd (Prod.fst (hid rebuilt (List.take (Int.toNat (min (↑(List.length (hid stream (Array.toList (ByteArray.data { data := #[(100 : UInt8), (97 : UInt8), (121 : UInt8)] })) fr (hid pcks ds g))) : Int) ((12 : Int) + (5 : Int) * ((1 : Int) + List.getD cut (0 : Nat) (0 : Int) % (↑(List.length ds) : Int)) + List.getD cut (1 : Nat) (0 : Int) % (5 : Int)))) (hid stream (Array.toList (ByteArray.data { data := #[(100 : UInt8), (97 : UInt8), (121 : UInt8)] })) fr (hid pcks ds g))))))) → splitB (decide ((↑(Prod.fst g_1) : Int) < (↑(List.length (Prod.fst (Prod.snd g_1))) : Int))) (((0 : Int) ≤ (↑(Prod.fst g_1) : Int) ∧ (↑(Prod.fst g_1) : Int) < (↑(List.length (Prod.fst (Prod.snd g_1))) : Int)) ∧ Prod.fst g_1 < List.length (Prod.fst (Prod.snd g_1)) ∧ (List.length (Prod.snd (Prod.snd (List.getD (Prod.fst (Prod.snd g_1)) (Prod.fst g_1) ((0 : Int), (0 : Int), List.replicate (10 : Nat) (0 : Int))))) = (10 : Nat) ∧ Bytes (Prod.snd (Prod.snd (List.getD (Prod.fst (Prod.snd g_1)) (Prod.fst g_1) ((0 : Int), (0 : Int), List.replicate (10 : Nat) (0 : Int)))))) ∧ ((bif Prod.snd (hid pkEnc (Prod.fst (List.getD (Prod.fst (Prod.snd g_1)) (Prod.fst g_1) ((0 : Int), (0 : Int), List.replicate (10 : Nat) (0 : Int)))) (Prod.fst (Prod.snd (List.getD (Prod.fst (Prod.snd g_1)) (Prod.fst g_1) ((0 : Int), (0 : Int), List.replicate (10 : Nat) (0 : Int))))) (Prod.snd (Prod.snd (List.getD (Prod.fst (Prod.snd g_1)) (Prod.fst g_1) ((0 : Int), (0 : Int), List.replicate (10 : Nat) (0 : Int)))))) != (0 : Int) then true else Prod.fst (Prod.snd (List.getD (Prod.fst (Prod.snd g_1)) (Prod.fst g_1) ((0 : Int), (0 : Int), List.replicate (10 : Nat) (0 : Int)))) != (↑(Prod.fst g_1) : Int)) = false → (0 : Int) ≤ (14 : Int) ∧ (14 : Int) < (16 : Int)) ∧ ((bif Prod.snd (hid pkEnc (Prod.fst (List.getD (Prod.fst (Prod.snd g_1)) (Prod.fst g_1) ((0 : Int), (0 : Int), List.replicate (10 : Nat) (0 : Int)))) (Prod.fst (Prod.snd (List.getD (Prod.fst (Prod.snd g_1)) (Prod.fst g_1) ((0 : Int), (0 : Int), List.replicate (10 : Nat) (0 : Int))))) (Prod.snd (Prod.snd (List.getD (Prod.fst (Prod.snd g_1)) (Prod.fst g_1) ((0 : Int), (0 : Int), List.replicate (10 : Nat) (0 : Int)))))) != (0 : Int) then true else Prod.fst (Prod.snd (List.getD (Prod.fst (Prod.snd g_1)) (Prod.fst g_1) ((0 : Int), (0 : Int), List.replicate (10 : Nat) (0 : Int)))) != (↑(Prod.fst g_1) : Int)) = false → (14 : Nat) < List.length (Prod.fst (hid pkEnc (Prod.fst (List.getD (Prod.fst (Prod.snd g_1)) (Prod.fst g_1) ((0 : Int), (0 : Int), List.replicate (10 : Nat) (0 : Int)))) (Prod.fst (Prod.snd (List.getD (Prod.fst (Prod.snd g_1)) (Prod.fst g_1) ((0 : Int), (0 : Int), List.replicate (10 : Nat) (0 : Int))))) (Prod.snd (Prod.snd (List.getD (Prod.fst (Prod.snd g_1)) (Prod.fst g_1) ((0 : Int), (0 : Int), List.replicate (10 : Nat) (0 : Int)))))))) ∧ ((bif Prod.snd (hid pkEnc (Prod.fst (List.getD (Prod.fst (Prod.snd g_1)) (Prod.fst g_1) ((0 : Int), (0 : Int), List.replicate (10 : Nat) (0 : Int)))) (Prod.fst (Prod.snd (List.getD (Prod.fst (Prod.snd g_1)) (Prod.fst g_1) ((0 : Int), (0 : Int), List.replicate (10 : Nat) (0 : Int))))) (Prod.snd (Prod.snd (List.getD (Prod.fst (Prod.snd g_1)) (Prod.fst g_1) ((0 : Int), (0 : Int), List.replicate (10 : Nat) (0 : Int)))))) != (0 : Int) then true else Prod.fst (Prod.snd (List.getD (Prod.fst (Prod.snd g_1)) (Prod.fst g_1) ((0 : Int), (0 : Int), List.replicate (10 : Nat) (0 : Int)))) != (↑(Prod.fst g_1) : Int)) = false → fits IntKind.i64 (List.getD (Prod.fst (hid pkEnc (Prod.fst (List.getD (Prod.fst (Prod.snd g_1)) (Prod.fst g_1) ((0 : Int), (0 : Int), List.replicate (10 : Nat) (0 : Int)))) (Prod.fst (Prod.snd (List.getD (Prod.fst (Prod.snd g_1)) (Prod.fst g_1) ((0 : Int), (0 : Int), List.replicate (10 : Nat) (0 : Int))))) (Prod.snd (Prod.snd (List.getD (Prod.fst (Prod.snd g_1)) (Prod.fst g_1) ((0 : Int), (0 : Int), List.replicate (10 : Nat) (0 : Int))))))) (14 : Nat) (0 : Int))) ∧ ((bif Prod.snd (hid pkEnc (Prod.fst (List.getD (Prod.fst (Prod.snd g_1)) (Prod.fst g_1) ((0 : Int), (0 : Int), List.replicate (10 : Nat) (0 : Int)))) (Prod.fst (Prod.snd (List.getD (Prod.fst (Prod.snd g_1)) (Prod.fst g_1) ((0 : Int), (0 : Int), List.replicate (10 : Nat) (0 : Int))))) (Prod.snd (Prod.snd (List.getD (Prod.fst (Prod.snd g_1)) (Prod.fst g_1) ((0 : Int), (0 : Int), List.replicate (10 : Nat) (0 : Int)))))) != (0 : Int) then true else Prod.fst (Prod.snd (List.getD (Prod.fst (Prod.snd g_1)) (Prod.fst g_1) ((0 : Int), (0 : Int), List.replicate (10 : Nat) (0 : Int)))) != (↑(Prod.fst g_1) : Int)) = false → (0 : Int) ≤ (8 : Int) ∧ (8 : Nat) ≤ IntKind.bits IntKind.i64 ∧ fits IntKind.i64 (List.getD (Prod.fst (hid pkEnc (Prod.fst (List.getD (Prod.fst (Prod.snd g_1)) (Prod.fst g_1) ((0 : Int), (0 : Int), List.replicate (10 : Nat) (0 : Int)))) (Prod.fst (Prod.snd (List.getD (Prod.fst (Prod.snd g_1)) (Prod.fst g_1) ((0 : Int), (0 : Int), List.replicate (10 : Nat) (0 : Int))))) (Prod.snd (Prod.snd (List.getD (Prod.fst (Prod.snd g_1)) (Prod.fst g_1) ((0 : Int), (0 : Int), List.replicate (10 : Nat) (0 : Int))))))) (14 : Nat) (0 : Int) * (256 : Int))) ∧ ((bif Prod.snd (hid pkEnc (Prod.fst (List.getD (Prod.fst (Prod.snd g_1)) (Prod.fst g_1) ((0 : Int), (0 : Int), List.replicate (10 : Nat) (0 : Int)))) (Prod.fst (Prod.snd (List.getD (Prod.fst (Prod.snd g_1)) (Prod.fst g_1) ((0 : Int), (0 : Int), List.replicate (10 : Nat) (0 : Int))))) (Prod.snd (Prod.snd (List.getD (Prod.fst (Prod.snd g_1)) (Prod.fst g_1) ((0 : Int), (0 : Int), List.replicate (10 : Nat) (0 : Int)))))) != (0 : Int) then true else Prod.fst (Prod.snd (List.getD (Prod.fst (Prod.snd g_1)) (Prod.fst g_1) ((0 : Int), (0 : Int), List.replicate (10 : Nat) (0 : Int)))) != (↑(Prod.fst g_1) : Int)) = false → (0 : Int) ≤ (15 : Int) ∧ (15 : Int) < (16 : Int)) ∧ ((bif Prod.snd (hid pkEnc (Prod.fst (List.getD (Prod.fst (Prod.snd g_1)) (Prod.fst g_1) ((0 : Int), (0 : Int), List.replicate (10 : Nat) (0 : Int)))) (Prod.fst (Prod.snd (List.getD (Prod.fst (Prod.snd g_1)) (Prod.fst g_1) ((0 : Int), (0 : Int), List.replicate (10 : Nat) (0 : Int))))) (Prod.snd (Prod.snd (List.getD (Prod.fst (Prod.snd g_1)) (Prod.fst g_1) ((0 : Int), (0 : Int), List.replicate (10 : Nat) (0 : Int)))))) != (0 : Int) then true else Prod.fst (Prod.snd (List.getD (Prod.fst (Prod.snd g_1)) (Prod.fst g_1) ((0 : Int), (0 : Int), List.replicate (10 : Nat) (0 : Int)))) != (↑(Prod.fst g_1) : Int)) = false → (15 : Nat) < List.length (Prod.fst (hid pkEnc (Prod.fst (List.getD (Prod.fst (Prod.snd g_1)) (Prod.fst g_1) ((0 : Int), (0 : Int), List.replicate (10 : Nat) (0 : Int)))) (Prod.fst (Prod.snd (List.getD (Prod.fst (Prod.snd g_1)) (Prod.fst g_1) ((0 : Int), (0 : Int), List.replicate (10 : Nat) (0 : Int))))) (Prod.snd (Prod.snd (List.getD (Prod.fst (Prod.snd g_1)) (Prod.fst g_1) ((0 : Int), (0 : Int), List.replicate (10 : Nat) (0 : Int)))))))) ∧ ((bif Prod.snd (hid pkEnc (Prod.fst (List.getD (Prod.fst (Prod.snd g_1)) (Prod.fst g_1) ((0 : Int), (0 : Int), List.replicate (10 : Nat) (0 : Int)))) (Prod.fst (Prod.snd (List.getD (Prod.fst (Prod.snd g_1)) (Prod.fst g_1) ((0 : Int), (0 : Int), List.replicate (10 : Nat) (0 : Int))))) (Prod.snd (Prod.snd (List.getD (Prod.fst (Prod.snd g_1)) (Prod.fst g_1) ((0 : Int), (0 : Int), List.replicate (10 : Nat) (0 : Int)))))) != (0 : Int) then true else Prod.fst (Prod.snd (List.getD (Prod.fst (Prod.snd g_1)) (Prod.fst g_1) ((0 : Int), (0 : Int), List.replicate (10 : Nat) (0 : Int)))) != (↑(Prod.fst g_1) : Int)) = false → fits IntKind.i64 (List.getD (Prod.fst (hid pkEnc (Prod.fst (List.getD (Prod.fst (Prod.snd g_1)) (Prod.fst g_1) ((0 : Int), (0 : Int), List.replicate (10 : Nat) (0 : Int)))) (Prod.fst (Prod.snd (List.getD (Prod.fst (Prod.snd g_1)) (Prod.fst g_1) ((0 : Int), (0 : Int), List.replicate (10 : Nat) (0 : Int))))) (Prod.snd (Prod.snd (List.getD (Prod.fst (Prod.snd g_1)) (Prod.fst g_1) ((0 : Int), (0 : Int), List.replicate (10 : Nat) (0 : Int))))))) (15 : Nat) (0 : Int))) ∧ ((bif Prod.snd (hid pkEnc (Prod.fst (List.getD (Prod.fst (Prod.snd g_1)) (Prod.fst g_1) ((0 : Int), (0 : Int), List.replicate (10 : Nat) (0 : Int)))) (Prod.fst (Prod.snd (List.getD (Prod.fst (Prod.snd g_1)) (Prod.fst g_1) ((0 : Int), (0 : Int), List.replicate (10 : Nat) (0 : Int))))) (Prod.snd (Prod.snd (List.getD (Prod.fst (Prod.snd g_1)) (Prod.fst g_1) ((0 : Int), (0 : Int), List.replicate (10 : Nat) (0 : Int)))))) != (0 : Int) then true else Prod.fst (Prod.snd (List.getD (Prod.fst (Prod.snd g_1)) (Prod.fst g_1) ((0 : Int), (0 : Int), List.replicate (10 : Nat) (0 : Int)))) != (↑(Prod.fst g_1) : Int)) = false → (0 : Int) ≤ (↑(Prod.fst g_1) : Int) ∧ (↑(Prod.fst g_1) : Int) < (↑(List.length (Prod.snd (Prod.snd (Prod.snd (Prod.snd g_1))))) : Int)) ∧ splitB (bif bif Prod.snd (hid pkEnc (Prod.fst (List.getD (Prod.fst (Prod.snd g_1)) (Prod.fst g_1) ((0 : Int), (0 : Int), List.replicate (10 : Nat) (0 : Int)))) (Prod.fst (Prod.snd (List.getD (Prod.fst (Prod.snd g_1)) (Prod.fst g_1) ((0 : Int), (0 : Int), List.replicate (10 : Nat) (0 : Int))))) (Prod.snd (Prod.snd (List.getD (Prod.fst (Prod.snd g_1)) (Prod.fst g_1) ((0 : Int), (0 : Int), List.replicate (10 : Nat) (0 : Int)))))) != (0 : Int) then true else Prod.fst (Prod.snd (List.getD (Prod.fst (Prod.snd g_1)) (Prod.fst g_1) ((0 : Int), (0 : Int), List.replicate (10 : Nat) (0 : Int)))) != (↑(Prod.fst g_1) : Int) then true else bits BinOp.or IntKind.i64 (List.getD (Prod.fst (hid pkEnc (Prod.fst (List.getD (Prod.fst (Prod.snd g_1)) (Prod.fst g_1) ((0 : Int), (0 : Int), List.replicate (10 : Nat) (0 : Int)))) (Prod.fst (Prod.snd (List.getD (Prod.fst (Prod.snd g_1)) (Prod.fst g_1) ((0 : Int), (0 : Int), List.replicate (10 : Nat) (0 : Int))))) (Prod.snd (Prod.snd (List.getD (Prod.fst (Prod.snd g_1)) (Prod.fst g_1) ((0 : Int), (0 : Int), List.replicate (10 : Nat) (0 : Int))))))) (14 : Nat) (0 : Int) * (256 : Int)) (List.getD (Prod.fst (hid pkEnc (Prod.fst (List.getD (Prod.fst (Prod.snd g_1)) (Prod.fst g_1) ((0 : Int), (0 : Int), List.replicate (10 : Nat) (0 : Int)))) (Prod.fst (Prod.snd (List.getD (Prod.fst (Prod.snd g_1)) (Prod.fst g_1) ((0 : Int), (0 : Int), List.replicate (10 : Nat) (0 : Int))))) (Prod.snd (Prod.snd (List.getD (Prod.fst (Prod.snd g_1)) (Prod.fst g_1) ((0 : Int), (0 : Int), List.replicate (10 : Nat) (0 : Int))))))) (15 : Nat) (0 : Int)) != List.getD (Prod.snd (Prod.snd (Prod.snd (Prod.snd g_1)))) (Prod.fst g_1) (0 : Int)) (false = true ∧ True) (fits IntKind.i64 ((↑(Prod.fst g_1) : Int) + (1 : Int)) ∧ ∃ (g' : Nat × List Pk × List UInt8 × Int × List Int), (Prod.fst g' ≤ List.length (Prod.fst (Prod.snd g')) ∧ Prod.snd g' = (Prod.fst (hid received (List.take (Int.toNat (min (↑(List.length (hid sent ds g)) : Int) ((16 : Int) * ((1 : Int) + List.getD cut (0 : Nat) (0 : Int) % (↑(List.length ds) : Int)) + (3 : Int) * (List.getD cut (1 : Nat) (0 : Int) % (5 : Int))))) (hid sent ds g))), Prod.fst (Prod.fst (hid rebuilt (List.take (Int.toNat (min (↑(List.length (hid stream (Array.toList (ByteArray.data { data := #[(100 : UInt8), (97 : UInt8), (121 : UInt8)] })) fr (hid pcks ds g))) : Int) ((12 : Int) + (5 : Int) * ((1 : Int) + List.getD cut (0 : Nat) (0 : Int) % (↑(List.length ds) : Int)) + List.getD cut (1 : Nat) (0 : Int) % (5 : Int)))) (hid stream (Array.toList (ByteArray.data { data := #[(100 : UInt8), (97 : UInt8), (121 : UInt8)] })) fr (hid pcks ds g))))), Prod.fst (Prod.snd (Prod.fst (hid rebuilt (List.take (Int.toNat (min (↑(List.length (hid stream (Array.toList (ByteArray.data { data := #[(100 : UInt8), (97 : UInt8), (121 : UInt8)] })) fr (hid pcks ds g))) : Int) ((12 : Int) + (5 : Int) * ((1 : Int) + List.getD cut (0 : Nat) (0 : Int) % (↑(List.length ds) : Int)) + List.getD cut (1 : Nat) (0 : Int) % (5 : Int)))) (hid stream (Array.toList (ByteArray.data { data := #[(100 : UInt8), (97 : UInt8), (121 : UInt8)] })) fr (hid pcks ds g)))))), Prod.snd (Prod.snd (Prod.fst (hid rebuilt (List.take (Int.toNat (min (↑(List.length (hid stream (Array.toList (ByteArray.data { data := #[(100 : UInt8), (97 : UInt8), (121 : UInt8)] })) fr (hid pcks ds g))) : Int) ((12 : Int) + (5 : Int) * ((1 : Int) + List.getD cut (0 : Nat) (0 : Int) % (↑(List.length ds) : Int)) + List.getD cut (1 : Nat) (0 : Int) % (5 : Int)))) (hid stream (Array.toList (ByteArray.data { data := #[(100 : UInt8), (97 : UInt8), (121 : UInt8)] })) fr (hid pcks ds g)))))))) ∧ List.length (Prod.fst (Prod.snd g')) - Prod.fst g' < List.length (Prod.fst (Prod.snd g_1)) - Prod.fst g_1 ∧ (↑(Prod.fst g_1) : Int) + (1 : Int) = (↑(Prod.fst g') : Int) ∧ (↑(List.length (Prod.fst (Prod.snd g_1))) : Int) = (↑(List.length (Prod.fst (Prod.snd g'))) : Int) ∧ Prod.fst (Prod.snd g_1) = Prod.fst (Prod.snd g') ∧ Prod.fst (Prod.snd (Prod.snd g_1)) = Prod.fst (Prod.snd (Prod.snd g')) ∧ Prod.fst (Prod.snd (Prod.snd (Prod.snd g_1))) = Prod.fst (Prod.snd (Prod.snd (Prod.snd g'))) ∧ Prod.snd (Prod.snd (Prod.snd (Prod.snd g_1))) = Prod.snd (Prod.snd (Prod.snd (Prod.snd g'))) ∧ True)) (true = true ∧ True)))))))))) := by
  kernel_rfl
end Go.Sx

/- The plain law: streams of reels, whatever the name. -/
namespace Go.Sx
open U

theorem rdRec_frame {l t : List Int} {c : Int} (hl : l.length < 256) (hc : 0 ≤ c ∧ c ≤ 65535) : rdRec (tframe l.length c ++ t) l = (0, false, c) := by
  have hn : number (((tframe l.length c ++ t).drop 1).take 2) = c := by
    show 256 * (256 * 0 + c / 256 % 256) + c % 256 = c
    omega
  have h0 : (tframe l.length c ++ t).getD 0 0 = 70 := rfl
  have he : recErr ((tframe l.length c ++ t).getD 0 0) l.length = 0 := by
    rw [h0]
    have : (((l.length : Nat) : Int) == 256) = false := by simp; omega
    unfold recErr
    rw [this]
    rfl
  rw [rdRec_full he (by simp [tframe_len]), hn, h0]
  have ht : List.take 5 (tframe l.length c ++ t) = tframe l.length c := rfl
  rw [ht]
  rw [if_neg (by decide)]
  simp [whenE]

theorem rdRec_last {l t : List Int} (hl : l.length ≤ 256) : rdRec (tlast l ++ t) l = (0, true, (l.length : Int)) := by
  have hn : number (((tlast l ++ t).drop 1).take 2) = l.length := by
    show 256 * (256 * 0 + (l.length : Int) / 256 % 256) + (l.length : Int) % 256 = l.length
    omega
  have h0 : (tlast l ++ t).getD 0 0 = 69 := rfl
  have he : recErr ((tlast l ++ t).getD 0 0) l.length = 0 := by rw [h0]; rfl
  rw [rdRec_full he (by simp [tlast_len]), hn, h0]
  have ht : List.take 5 (tlast l ++ t) = tlast l := rfl
  rw [ht, if_pos (by decide)]
  simp [whenE]

theorem rdRec_part {l t : List Int} (hl : t.length = 0 ∨ l.length < 256 ∨ t.getD 0 0 = 69) (ht : t.length < 5) (h0 : t.length = 0 ∨ t.getD 0 0 = 69 ∨ t.getD 0 0 = 70) : rdRec t l = (28, false, 0) := by
  by_cases h1 : t.length < 1
  · exact rdRec_none h1
  · refine rdRec_torn h1 ?_ ht
    rcases h0 with h0 | h0 | h0
    · omega
    · rw [h0]; rfl
    · rw [h0] at hl ⊢
      have hl' : l.length < 256 := by
        rcases hl with h | h | h
        · omega
        · exact h
        · cases h
      have : (((l.length : Nat) : Int) == 256) = false := by simp; omega
      unfold recErr
      rw [this]
      rfl

/-- Some frames' records. -/
def recsF (l : List Int) : Nat → Nat → List Int
  | _, 0 => []
  | i, k + 1 => tframe i (l.getD i 0) ++ recsF l (i + 1) k

theorem recs_recsF (l : List Int) : ∀ k i, recs l i ++ recsF l i k = recs l (i + k)
  | 0, i => by simp [recsF]
  | k + 1, i => by
    have := recs_recsF l k (i + 1)
    rw [show i + (k + 1) = (i + 1) + k by omega, ← this]
    simp [recsF, recs]

theorem recsF_len (l : List Int) : ∀ k i, (recsF l i k).length = 5 * k
  | 0, _ => rfl
  | k + 1, i => by simp only [recsF, List.length_append, recsF_len l k, tframe_len]; omega

theorem take_succ' {l : List Int} {i : Nat} (h : i < l.length) : l.take i ++ [l.getD i 0] = l.take (i + 1) := by
  rw [getD_of h, List.take_succ_eq_append_getElem h]

theorem rdAll_recs {l : List Int} (hw : W16 l) (h256 : l.length ≤ 256) (t : List Int) (m : Nat) : ∀ k i, i + k ≤ l.length → rdAll (m + k) (recsF l i k ++ t) (l.take i) = rdAll m t (l.take (i + k))
  | 0, i, _ => rfl
  | k + 1, i, h => by
    have hi : i < l.length := by omega
    have hlen : (l.take i).length = i := by rw [List.length_take]; omega
    have hc := hw _ (List.getElem_mem hi)
    have hr := rdRec_frame (l := l.take i) (t := recsF l (i + 1) k ++ t) (c := l.getD i 0) (by omega) (by rw [getD_of hi]; exact hc)
    rw [hlen] at hr
    have e : recsF l i (k + 1) ++ t = tframe i (l.getD i 0) ++ (recsF l (i + 1) k ++ t) := by simp [recsF]
    rw [e, show m + (k + 1) = (m + k) + 1 by omega, rdAll_more (by rw [hr]) (by rw [hr]), hr]
    have hd : List.drop 5 (tframe i (l.getD i 0) ++ (recsF l (i + 1) k ++ t)) = recsF l (i + 1) k ++ t := rfl
    rw [hd]
    simp only []
    rw [take_succ' hi, rdAll_recs hw h256 t m k (i + 1) (by omega)]
    congr 1
    congr 1
    omega

theorem rbAll_recs {f : Int} {l : List Int} (hw : W16 l) (h256 : l.length ≤ 256) (hf : f + (l.length : Int) ≤ 10000000) (t : List Int) (m : Nat) : ∀ k i, i + k ≤ l.length → rbAll f (m + k) (recsF l i k ++ t) (l.take i) = rbAll f m t (l.take (i + k))
  | 0, i, _ => rfl
  | k + 1, i, h => by
    have hi : i < l.length := by omega
    have hlen : (l.take i).length = i := by rw [List.length_take]; omega
    have hc := hw _ (List.getElem_mem hi)
    have hr := rdRec_frame (l := l.take i) (t := recsF l (i + 1) k ++ t) (c := l.getD i 0) (by omega) (by rw [getD_of hi]; exact hc)
    rw [hlen] at hr
    have e : recsF l i (k + 1) ++ t = tframe i (l.getD i 0) ++ (recsF l (i + 1) k ++ t) := by simp [recsF]
    rw [e, show m + (k + 1) = (m + k) + 1 by omega, rbAll_more (by rw [hr]; exact ⟨rfl, rfl, by rw [hlen]; omega⟩), hr]
    have hd : List.drop 5 (tframe i (l.getD i 0) ++ (recsF l (i + 1) k ++ t)) = recsF l (i + 1) k ++ t := rfl
    rw [hd]
    simp only []
    rw [take_succ' hi, rbAll_recs hw h256 hf t m k (i + 1) (by omega)]
    congr 1
    congr 1
    omega

/-- What is left of a record that is cut off. -/
theorem tail_head {l : List Int} {k n q : Nat} (hn : k + n = l.length) : ((recsF l k n ++ tlast l).take q).length = 0 ∨ ((recsF l k n ++ tlast l).take q).getD 0 0 = 69 ∧ n = 0 ∨ ((recsF l k n ++ tlast l).take q).getD 0 0 = 70 ∧ n ≠ 0 := by
  cases q with
  | zero => exact .inl rfl
  | succ q =>
    cases n with
    | zero => exact .inr (.inl ⟨rfl, rfl⟩)
    | succ n => exact .inr (.inr ⟨rfl, by omega⟩)

theorem record_bytes {k a b : Int} (hk : 0 ≤ k ∧ k ≤ 255) : Bytes (record k a b) := by
  intro x hx
  simp only [record, List.mem_cons, List.not_mem_nil, or_false] at hx
  rcases hx with rfl | rfl | rfl | rfl | rfl <;> omega


theorem isName_byte {nm : List UInt8} (h : isName nm = true) : ∀ b ∈ nm, b.toNat < 128 := by
  unfold isName at h
  simp only [Bool.and_eq_true, List.all_eq_true] at h
  intro b hb
  obtain ⟨i, hi, rfl⟩ := List.mem_iff_getElem.1 hb
  have := h.1 i (List.mem_range.2 hi)
  unfold nameAt at this
  rw [getD_of hi] at this
  simp only [Bool.or_eq_true, Bool.and_eq_true, decide_eq_true_eq, beq_iff_eq] at this
  omega
theorem plain_name {nm : List UInt8} (h : isName nm = true) : plain nm = true := by
  unfold plain
  rw [List.all_eq_true]
  exact fun b hb => decide_eq_true (isName_byte h b hb)
theorem bytesOf_strNs (nm : List UInt8) : bytesOf (strNs nm) = nm := by
  unfold bytesOf strNs
  rw [List.map_map]
  have : ((fun n : Int => UInt8.ofNat n.toNat) ∘ fun c : UInt8 => (c.toNat : Int)) = id := by
    funext c
    simp
  rw [this, List.map_id]
theorem head_len (nm : List UInt8) (f : Int) : (head nm f).length = 9 + nm.length := by
  simp only [head, List.length_append, strNs_len, four, List.length_cons, List.length_nil]; omega
theorem four_num {f : Int} (hf : 0 ≤ f ∧ f ≤ 10000000) : number (four f) = f := by
  show 256 * (256 * (256 * (256 * 0 + f / 16777216 % 256) + f / 65536 % 256) + f / 256 % 256) + f % 256 = f
  omega

theorem begin_nm {nm : List UInt8} {f : Int} (hn : isName nm = true) (hf : 0 ≤ f ∧ f ≤ 10000000) (r : List Int) : rdBegin (head nm f ++ r) = (0, nm, f, r) := by
  obtain ⟨l1, l2⟩ := isName_len hn
  have e : head nm f ++ r = [82, 69, 69, 76] ++ ([((nm.length : Int)) % 256] ++ (strNs nm ++ (four f ++ r))) := by
    simp only [head, List.append_assoc]
  rw [e]
  have d4 : List.drop 4 ([82, 69, 69, 76] ++ ([((nm.length : Int)) % 256] ++ (strNs nm ++ (four f ++ r)))) = [((nm.length : Int)) % 256] ++ (strNs nm ++ (four f ++ r)) := rfl
  have t4 : List.take 4 ([82, 69, 69, 76] ++ ([((nm.length : Int)) % 256] ++ (strNs nm ++ (four f ++ r)))) = [82, 69, 69, 76] := rfl
  have g0 : (([((nm.length : Int)) % 256] ++ (strNs nm ++ (four f ++ r))).getD 0 0).toNat = nm.length := by
    show ((nm.length : Int) % 256).toNat = nm.length
    omega
  have d1 : List.drop 1 ([((nm.length : Int)) % 256] ++ (strNs nm ++ (four f ++ r))) = strNs nm ++ (four f ++ r) := rfl
  have tk : List.take nm.length (strNs nm ++ (four f ++ r)) = strNs nm := by rw [List.take_append_of_le_length (by rw [strNs_len]; exact Nat.le_refl _), List.take_of_length_le (by rw [strNs_len]; exact Nat.le_refl _)]
  have dk : List.drop nm.length (strNs nm ++ (four f ++ r)) = four f ++ r := by rw [List.drop_append_of_le_length (by rw [strNs_len]; exact Nat.le_refl _), List.drop_of_length_le (by rw [strNs_len]; exact Nat.le_refl _)]; rfl
  have t5 : List.take 4 (four f ++ r) = four f := rfl
  have d5 : List.drop 4 (four f ++ r) = r := rfl
  unfold rdBegin
  rw [if_neg (by simp), t4, if_pos rfl, d4, g0, d1, tk, dk, t5, d5, bytesOf_strNs, plain_name hn, hn, four_num hf, if_neg (by simp), if_neg (by simp [strNs_len]), if_pos (show (true && true) = true from rfl), if_neg (by simp [four]), decide_eq_false (by omega)]
  rfl

section
variable {nm : List UInt8} {f : Int} {l : List Int}

theorem stream_eq : stream nm f l = head nm f ++ (recsF l 0 l.length ++ tlast l) := by
  unfold stream
  have a := recs_recsF l l.length 0
  rw [Nat.zero_add] at a
  rw [← a, List.append_assoc]
  rfl
theorem stream_length : (stream nm f l).length = 9 + nm.length + 5 * l.length + 5 := by
  rw [stream_eq]
  simp only [List.length_append, recsF_len, tlast_len, head_len]; omega

theorem cut_eqN (k q : Nat) (hk : k ≤ l.length) : (stream nm f l).take (9 + nm.length + 5 * k + q) = head nm f ++ (recsF l 0 k ++ (recsF l k (l.length - k) ++ tlast l).take q) := by
  have e1 : recsF l 0 l.length = recsF l 0 k ++ recsF l k (l.length - k) := by
    have a := recs_recsF l k 0
    have b := recs_recsF l (l.length - k) k
    have c := recs_recsF l l.length 0
    rw [show k + (l.length - k) = l.length by omega] at b
    have e0 : recs l 0 = [] := rfl
    rw [e0, List.nil_append, Nat.zero_add] at a c
    rw [c, ← b, a]
  have e2 : stream nm f l = (head nm f ++ recsF l 0 k) ++ (recsF l k (l.length - k) ++ tlast l) := by
    rw [stream_eq, e1]
    simp only [List.append_assoc]
  have hl : (head nm f ++ recsF l 0 k).length = 9 + nm.length + 5 * k := by rw [List.length_append, recsF_len, head_len]
  rw [e2, List.take_append, List.take_of_length_le (by omega), hl, show 9 + nm.length + 5 * k + q - (9 + nm.length + 5 * k) = q by omega, List.append_assoc]

theorem cut_lenN (k q : Nat) (hk : k ≤ l.length) (hq : q < 5) : ((stream nm f l).take (9 + nm.length + 5 * k + q)).length = 9 + nm.length + 5 * k + q := by
  rw [List.length_take, stream_length]; omega

variable (h : ReelOk nm f l)
include h
theorem tail_recN (k q : Nat) (hk : k ≤ l.length) (hq : q < 5) : rdRec ((recsF l k (l.length - k) ++ tlast l).take q) (l.take k) = (28, false, 0) := by
  have ht := tail_head (l := l) (k := k) (n := l.length - k) (q := q) (by omega)
  have hlt : (l.take k).length = k := by rw [List.length_take]; omega
  have h2 := h.len
  refine rdRec_part ?_ (by rw [List.length_take]; omega) ?_
  · rcases ht with ht | ht | ht
    · exact .inl ht
    · exact .inr (.inr ht.1)
    · exact .inr (.inl (by omega))
  · rcases ht with ht | ht | ht
    · exact .inl ht
    · exact .inr (.inl ht.1)
    · exact .inr (.inr ht.1)

theorem read_cutN (k q : Nat) (hk : k ≤ l.length) (hq : q < 5) : readS ((stream nm f l).take (9 + nm.length + 5 * k + q)) = (([], 0, []), 28) := by
  have hlen := cut_lenN (nm := nm) (f := f) k q hk hq
  rw [cut_eqN k q hk] at *
  have hb := begin_nm h.name h.start (recsF l 0 k ++ (recsF l k (l.length - k) ++ tlast l).take q)
  refine readS_err hb (l := l.take k) (q := (recsF l k (l.length - k) ++ tlast l).take q) ?_ (by decide)
  rw [hlen, show 9 + nm.length + 5 * k + q + 1 = (9 + nm.length + 4 * k + q + 1) + k by omega]
  have := rdAll_recs h.w h.len ((recsF l k (l.length - k) ++ tlast l).take q) (9 + nm.length + 4 * k + q + 1) k 0 (by omega)
  rw [Nat.zero_add, List.take_zero] at this
  rw [this]
  have hp := tail_recN h k q hk hq
  rw [rdAll_stop (by rw [hp]; decide), hp]

theorem rebuilt_cutN (k q : Nat) (h1 : 1 ≤ k) (hk : k ≤ l.length) (hq : q < 5) : rebuilt ((stream nm f l).take (9 + nm.length + 5 * k + q)) = ((nm, f, l.take k), false, 0) := by
  have hlen := cut_lenN (nm := nm) (f := f) k q hk hq
  have hrd := read_cutN h k q hk hq
  rw [cut_eqN k q hk] at *
  have hb := begin_nm h.name h.start (recsF l 0 k ++ (recsF l k (l.length - k) ++ tlast l).take q)
  have hlt : (l.take k).length = k := by rw [List.length_take]; omega
  have hx := rebuilt_some hb (l := l.take k) ?_ (by omega)
  · rw [hx, hrd]; rfl
  rw [hlen, show 9 + nm.length + 5 * k + q + 1 = (9 + nm.length + 4 * k + q + 1) + k by omega]
  have := rbAll_recs h.w h.len h.fin ((recsF l k (l.length - k) ++ tlast l).take q) (9 + nm.length + 4 * k + q + 1) k 0 (by omega)
  rw [Nat.zero_add, List.take_zero] at this
  rw [this]
  have hp := tail_recN h k q hk hq
  exact rbAll_stop (by rw [hp]; simp)

theorem read_allN : readS (stream nm f l) = ((nm, f, l), 0) := by
  have hb := begin_nm h.name h.start (recsF l 0 l.length ++ tlast l)
  rw [← stream_eq] at hb
  refine readS_ok hb (l := l) (q := []) ?_ ?_
  · rw [stream_length, show 9 + nm.length + 5 * l.length + 5 + 1 = (9 + nm.length + 4 * l.length + 5 + 1) + l.length by omega]
    have := rdAll_recs h.w h.len (tlast l) (9 + nm.length + 4 * l.length + 5 + 1) l.length 0 (by omega)
    rw [Nat.zero_add, List.take_zero, List.take_length] at this
    rw [this]
    have hr := rdRec_last (l := l) (t := []) h.len
    rw [List.append_nil] at hr
    rw [rdAll_last (by rw [hr]) (by rw [hr])]
    rfl
  · rw [checkReel_zero.2 h]; rfl

omit h in
theorem stream_byte : Bytes (stream nm f l) := by
  unfold stream
  refine Bytes.app (Bytes.app ?_ ?_) ?_
  · intro x hx
    simp only [head, four, List.mem_append, List.mem_cons, List.not_mem_nil, or_false] at hx
    rcases hx with ((hx | hx) | hx) | hx
    · rcases hx with rfl | rfl | rfl | rfl <;> omega
    · omega
    · unfold strNs at hx
      obtain ⟨c, _, rfl⟩ := List.mem_map.1 hx
      have := c.toNat_lt
      omega
    · rcases hx with rfl | rfl | rfl | rfl <;> omega
  · have key : ∀ i, Bytes (recs l i) := by
      intro i
      induction i with
      | zero => intro x hx; cases hx
      | succ i ih => exact Bytes.app ih (record_bytes (by omega))
    exact key _
  · exact record_bytes (by omega)
end
end Go.Sx

/- The plain law: streams of reels. -/
namespace Go.Sx
open U

theorem begin_day {f : Int} (hf : 0 ≤ f ∧ f ≤ 10000000) (r : List Int) : rdBegin (head day f ++ r) = (0, day, f, r) := by
  have e : head day f ++ r = [82, 69, 69, 76, 3, 100, 97, 121, f / 16777216 % 256, f / 65536 % 256, f / 256 % 256, f % 256] ++ r := rfl
  have hnum : number [f / 16777216 % 256, f / 65536 % 256, f / 256 % 256, f % 256] = f := by
    show 256 * (256 * (256 * (256 * 0 + f / 16777216 % 256) + f / 65536 % 256) + f / 256 % 256) + f % 256 = f
    omega
  rw [e]
  unfold rdBegin
  have h1 : ¬ ([82, 69, 69, 76, 3, 100, 97, 121, f / 16777216 % 256, f / 65536 % 256, f / 256 % 256, f % 256] ++ r).length < 4 := by simp
  have d4 : List.drop 4 ([82, 69, 69, 76, 3, 100, 97, 121, f / 16777216 % 256, f / 65536 % 256, f / 256 % 256, f % 256] ++ r) = [3, 100, 97, 121, f / 16777216 % 256, f / 65536 % 256, f / 256 % 256, f % 256] ++ r := rfl
  have t4 : List.take 4 ([82, 69, 69, 76, 3, 100, 97, 121, f / 16777216 % 256, f / 65536 % 256, f / 256 % 256, f % 256] ++ r) = [82, 69, 69, 76] := rfl
  rw [if_neg h1, d4, t4, if_pos rfl]
  have g0 : (([3, 100, 97, 121, f / 16777216 % 256, f / 65536 % 256, f / 256 % 256, f % 256] ++ r).getD 0 0).toNat = 3 := rfl
  have d1 : List.drop 1 ([3, 100, 97, 121, f / 16777216 % 256, f / 65536 % 256, f / 256 % 256, f % 256] ++ r) = [100, 97, 121, f / 16777216 % 256, f / 65536 % 256, f / 256 % 256, f % 256] ++ r := rfl
  rw [g0, d1]
  have t3 : List.take 3 ([100, 97, 121, f / 16777216 % 256, f / 65536 % 256, f / 256 % 256, f % 256] ++ r) = [100, 97, 121] := rfl
  have d3' : List.drop 3 ([100, 97, 121, f / 16777216 % 256, f / 65536 % 256, f / 256 % 256, f % 256] ++ r) = [f / 16777216 % 256, f / 65536 % 256, f / 256 % 256, f % 256] ++ r := rfl
  rw [t3, d3']
  have t5 : List.take 4 ([f / 16777216 % 256, f / 65536 % 256, f / 256 % 256, f % 256] ++ r) = [f / 16777216 % 256, f / 65536 % 256, f / 256 % 256, f % 256] := rfl
  have d5 : List.drop 4 ([f / 16777216 % 256, f / 65536 % 256, f / 256 % 256, f % 256] ++ r) = r := rfl
  rw [t5, d5, hnum, if_neg (by simp), if_neg (by simp), if_pos (by decide), if_neg (by simp), decide_eq_false (by omega)]
  rfl

section
variable {f : Int} {l : List Int} (h : ReelOk day f l)
include h

omit h in
theorem cut_eq (k q : Nat) (hk : k ≤ l.length) : (stream day f l).take (12 + 5 * k + q) = head day f ++ (recsF l 0 k ++ (recsF l k (l.length - k) ++ tlast l).take q) := by
  have e1 : recs l l.length = recsF l 0 k ++ recsF l k (l.length - k) := by
    have a := recs_recsF l k 0
    have b := recs_recsF l (l.length - k) k
    rw [show k + (l.length - k) = l.length by omega] at b
    rw [← b]
    have : recs l k = recsF l 0 k := by rw [Nat.zero_add] at a; rw [← a]; rfl
    rw [this]
  have e2 : stream day f l = (head day f ++ recsF l 0 k) ++ (recsF l k (l.length - k) ++ tlast l) := by
    unfold stream
    rw [e1]
    simp only [List.append_assoc]
  have hl : (head day f ++ recsF l 0 k).length = 12 + 5 * k := by rw [List.length_append, recsF_len]; rfl
  rw [e2, List.take_append, List.take_of_length_le (by omega), hl, show 12 + 5 * k + q - (12 + 5 * k) = q by omega, List.append_assoc]

omit h in
theorem cut_len (k q : Nat) (hk : k ≤ l.length) (hq : q < 5) : ((stream day f l).take (12 + 5 * k + q)).length = 12 + 5 * k + q := by
  rw [cut_eq k q hk]
  simp only [List.length_append, recsF_len, List.length_take, tlast_len]
  have : (head day f).length = 12 := rfl
  omega

theorem tail_rec (k q : Nat) (hk : k ≤ l.length) (hq : q < 5) : rdRec ((recsF l k (l.length - k) ++ tlast l).take q) (l.take k) = (28, false, 0) := by
  have ht := tail_head (l := l) (k := k) (n := l.length - k) (q := q) (by omega)
  have hlt : (l.take k).length = k := by rw [List.length_take]; omega
  have h2 := h.len
  refine rdRec_part ?_ (by rw [List.length_take]; omega) ?_
  · rcases ht with ht | ht | ht
    · exact .inl ht
    · exact .inr (.inr ht.1)
    · exact .inr (.inl (by omega))
  · rcases ht with ht | ht | ht
    · exact .inl ht
    · exact .inr (.inl ht.1)
    · exact .inr (.inr ht.1)

theorem read_cut (k q : Nat) (hk : k ≤ l.length) (hq : q < 5) : readS ((stream day f l).take (12 + 5 * k + q)) = (([], 0, []), 28) := by
  have hlen := cut_len (f := f) k q hk hq
  rw [cut_eq k q hk] at *
  have hb := begin_day h.start (recsF l 0 k ++ (recsF l k (l.length - k) ++ tlast l).take q)
  refine readS_err hb (l := l.take k) (q := (recsF l k (l.length - k) ++ tlast l).take q) ?_ (by decide)
  rw [hlen, show 12 + 5 * k + q + 1 = (12 + 4 * k + q + 1) + k by omega]
  have := rdAll_recs h.w h.len ((recsF l k (l.length - k) ++ tlast l).take q) (12 + 4 * k + q + 1) k 0 (by omega)
  rw [Nat.zero_add, List.take_zero] at this
  rw [this]
  have hp := tail_rec h k q hk hq
  rw [rdAll_stop (by rw [hp]; decide), hp]

theorem rebuilt_cut (k q : Nat) (h1 : 1 ≤ k) (hk : k ≤ l.length) (hq : q < 5) : rebuilt ((stream day f l).take (12 + 5 * k + q)) = ((day, f, l.take k), false, 0) := by
  have hlen := cut_len (f := f) k q hk hq
  have hrd := read_cut h k q hk hq
  rw [cut_eq k q hk] at *
  have hb := begin_day h.start (recsF l 0 k ++ (recsF l k (l.length - k) ++ tlast l).take q)
  have hlt : (l.take k).length = k := by rw [List.length_take]; omega
  have hx := rebuilt_some hb (l := l.take k) ?_ (by omega)
  · rw [hx, hrd]; rfl
  rw [hlen, show 12 + 5 * k + q + 1 = (12 + 4 * k + q + 1) + k by omega]
  have := rbAll_recs h.w h.len h.fin ((recsF l k (l.length - k) ++ tlast l).take q) (12 + 4 * k + q + 1) k 0 (by omega)
  rw [Nat.zero_add, List.take_zero] at this
  rw [this]
  have hp := tail_rec h k q hk hq
  exact rbAll_stop (by rw [hp]; simp)

theorem read_all : readS (stream day f l) = ((day, f, l), 0) := by
  have e2 : stream day f l = head day f ++ (recsF l 0 l.length ++ tlast l) := by
    unfold stream
    have a := recs_recsF l l.length 0
    rw [Nat.zero_add] at a
    rw [← a, List.append_assoc]
    rfl
  have hlen : (stream day f l).length = 12 + 5 * l.length + 5 := by
    rw [e2]
    simp only [List.length_append, recsF_len, tlast_len]
    have : (head day f).length = 12 := rfl
    omega
  have hb := begin_day h.start (recsF l 0 l.length ++ tlast l)
  rw [← e2] at hb
  refine readS_ok hb (l := l) (q := []) ?_ ?_
  · rw [hlen, show 12 + 5 * l.length + 5 + 1 = (12 + 4 * l.length + 5 + 1) + l.length by omega]
    have := rdAll_recs h.w h.len (tlast l) (12 + 4 * l.length + 5 + 1) l.length 0 (by omega)
    rw [Nat.zero_add, List.take_zero, List.take_length] at this
    rw [this]
    have hr := rdRec_last (l := l) (t := []) h.len
    rw [List.append_nil] at hr
    rw [rdAll_last (by rw [hr]) (by rw [hr])]
    rfl
  · rw [checkReel_zero.2 h]; rfl

omit h in
theorem stream_len : (stream day f l).length = 12 + 5 * l.length + 5 := by
  unfold stream
  simp only [List.length_append, recs_len, tlast_len]
  have : (head day f).length = 12 := rfl
  omega

omit h in
theorem stream_bytes : Bytes (stream day f l) := by
  unfold stream
  refine Bytes.app (Bytes.app ?_ ?_) ?_
  · have e : head day f = [82, 69, 69, 76, 3, 100, 97, 121, f / 16777216 % 256, f / 65536 % 256, f / 256 % 256, f % 256] := rfl
    rw [e]
    intro x hx
    simp only [List.mem_cons, List.not_mem_nil, or_false] at hx
    rcases hx with rfl | rfl | rfl | rfl | rfl | rfl | rfl | rfl | rfl | rfl | rfl | rfl <;> omega
  · generalize l.length = n
    induction n with
    | zero => intro x hx; simp [recs] at hx
    | succ n ih => exact Bytes.app ih (record_bytes (by omega))
  · exact record_bytes (by omega)
end
end Go.Sx

/- The plain law: packets that are sent and received. -/
namespace Go.Sx
open U

theorem and7_bd (x : Int) : 0 ≤ and7 x ∧ and7 x ≤ 255 := by
  unfold and7
  have : ∃ n : Nat, bits .and .u8 x 127 = IntKind.wrap .u8 (n : Int) := ⟨_, rfl⟩
  obtain ⟨n, hn⟩ := this
  rw [hn]
  have : IntKind.wrap .u8 (n : Int) = (n : Int) % 256 := rfl
  rw [this]
  omega

theorem dat3_len (d : List Int) : (dat3 d).length = 10 := rfl
theorem dat3_bytes (d : List Int) : Bytes (dat3 d) := by
  intro x hx
  simp only [dat3, List.mem_cons, List.not_mem_nil, or_false] at hx
  have h0 := and7_bd (d.getD 0 0)
  have h1 := and7_bd (d.getD 1 0)
  have h2 := and7_bd (d.getD 2 0)
  rcases hx with rfl | rfl | rfl | rfl | rfl | rfl | rfl | rfl | rfl | rfl <;> omega

theorem pcheck_ok {i : Nat} (h : i ≤ 255) : pcheck 1 i = 0 := by
  unfold pcheck
  rw [within_zero.2 ⟨by omega, by omega⟩, within_zero.2 ⟨by omega, by omega⟩]
  rfl

theorem enc_ok {i : Nat} (h : i ≤ 255) (d : List Int) : pkEnc 1 i d = (frame 1 i d, 0) := by
  unfold pkEnc
  rw [if_pos (pcheck_ok h)]

theorem frame1_len (k c : Int) {d : List Int} (hd : d.length = 10) : (frame1 k c d).length = 14 := by simp [frame1, frame0, hd]

/-- The last two bytes of a frame are its check. -/
theorem frame_word (k c : Int) {d : List Int} (hd : d.length = 10) : (frame k c d).getD 14 0 = sum 251 65521 (frame1 k c d) / 256 % 256 ∧ (frame k c d).getD 15 0 = sum 251 65521 (frame1 k c d) % 256 := by
  have hl := frame1_len k c hd
  unfold frame word
  generalize sum 251 65521 (frame1 k c d) = x
  generalize frame1 k c d = a at *
  constructor
  · rw [List.getD_eq_getElem?_getD, List.getElem?_append_right (by omega), hl]; rfl
  · rw [List.getD_eq_getElem?_getD, List.getElem?_append_right (by omega), hl]; rfl

theorem frame_check (k c : Int) {d : List Int} (hd : d.length = 10) : bits .or .i64 ((frame k c d).getD 14 0 * 256) ((frame k c d).getD 15 0) = sum 251 65521 (frame1 k c d) := by
  obtain ⟨h1, h2⟩ := frame_word k c hd
  have hb := sum_bd (f := 251) (d := 65521) (by decide) (frame1 k c d)
  rw [h1, h2, bor256 _ _ (by omega) (by omega) (by omega)]
  omega

theorem dec_frame {i : Nat} (h : i ≤ 255) {d : List Int} (hd : d.length = 10) : pkDec (frame 1 i d) = ((1, (i : Int), d), 0) := by
  have e : frame 1 i d = 171 :: (1 % 256) :: ((i : Int) % 256) :: (d ++ ([par ((frame0 1 i d).drop 1)] ++ word (sum 251 65521 (frame1 1 i d)))) := by
    simp [frame, frame1, frame0]
  have g0 : (frame 1 i d).getD 0 0 = 171 := by rw [e]; rfl
  have g1 : (frame 1 i d).getD 1 0 = 1 := by rw [e]; rfl
  have g2 : (frame 1 i d).getD 2 0 = i := by
    rw [e]
    show (i : Int) % 256 = i
    omega
  have g3 : dat (frame 1 i d) = d := by
    unfold dat
    rw [e]
    show List.take 10 (d ++ _) = d
    rw [List.take_append, List.take_of_length_le (by omega), hd]
    simp
  unfold pkDec
  rw [if_pos g0, g1, g2, g3, if_pos rfl]

section
variable (ds : List (List Int))

def pkAt (i : Nat) : Pk := (1, (i : Int), dat3 (ds.getD i d3))
def pks (i : Nat) : List Pk := (List.range i).map (pkAt ds)

theorem pks_len (i : Nat) : (pks ds i).length = i := by simp [pks]
theorem pks_succ (i : Nat) : pks ds (i + 1) = pks ds i ++ [pkAt ds i] := by simp [pks, List.range_succ]
theorem pfr_len (i : Nat) : (pfr ds i).length = 16 := frame_len _ _ (dat3_len _)
theorem sent_len : ∀ i, (sent ds i).length = 16 * i
  | 0 => rfl
  | i + 1 => by simp only [sent, List.length_append, sent_len i, pfr_len]; omega
theorem sent_bytes : ∀ i, Bytes (sent ds i)
  | 0 => by intro x hx; simp [sent] at hx
  | i + 1 => Bytes.app (sent_bytes i) (frame_bytes _ _ (dat3_bytes _))
theorem pcks_len (i : Nat) : (pcks ds i).length = i := by simp [pcks]
theorem pcks_succ (i : Nat) : pcks ds (i + 1) = pcks ds i ++ [pck ds i] := by simp [pcks, List.range_succ]
theorem pcks_w (i : Nat) : W16 (pcks ds i) := by
  intro x hx
  obtain ⟨j, _, rfl⟩ := List.mem_map.1 hx
  have := sum_bd (f := 251) (d := 65521) (by decide) (frame1 1 j (dat3 (ds.getD j d3)))
  unfold pck
  omega

/-- The first packets' frames, and what is behind them. -/
theorem sent_take {k n : Nat} (h : k ≤ n) : ∃ t, sent ds n = sent ds k ++ t := by
  induction n with
  | zero => exact ⟨[], by have : k = 0 := by omega
                          subst this; rfl⟩
  | succ n ih =>
    by_cases e : k = n + 1
    · subst e; exact ⟨[], by simp⟩
    · obtain ⟨t, ht⟩ := ih (by omega)
      exact ⟨t ++ pfr ds n, by rw [sent, ht, List.append_assoc]⟩

theorem blk_sent {j k : Nat} (h : j < k) (p : List Int) : blk (sent ds k ++ p) (16 * j) = pfr ds j := by
  obtain ⟨t, ht⟩ := sent_take ds (k := j + 1) (n := k) h
  have e : sent ds k ++ p = sent ds j ++ (pfr ds j ++ (t ++ p)) := by rw [ht, sent]; simp only [List.append_assoc]
  unfold blk
  rw [e, List.drop_append, List.drop_of_length_le (by rw [sent_len]; omega), sent_len, show 16 * j - 16 * j = 0 by omega, List.drop_zero, List.nil_append, List.take_append, List.take_of_length_le (by rw [pfr_len]; omega), pfr_len]
  simp

/-- What is known while packets are read one after the other. -/
theorem rst_sent {k : Nat} (hk : k ≤ 256) (p : List Int) : ∀ j, j ≤ k → rst (sent ds k ++ p) (16 * j) = (pks ds j, [], ((16 * j : Nat) : Int))
  | 0, _ => rfl
  | j + 1, h => by
    have ih := rst_sent hk p j (by omega)
    have step : ∀ t, t < 16 → rst (sent ds k ++ p) (16 * j + 1 + t) = (pks ds (j + 1), [], ((16 * (j + 1) : Nat) : Int)) := by
      intro t
      induction t with
      | zero =>
        intro _
        rw [Nat.add_zero, rst_succ, ih]
        unfold rstep
        rw [if_neg (by simp), blk_sent ds (by omega) p]
        have hd : pkDec (pfr ds j) = ((1, (j : Int), dat3 (ds.getD j d3)), 0) := dec_frame (by omega) (dat3_len _)
        rw [if_pos ⟨pfr_len ds j, by rw [hd]⟩, hd, pks_succ]
        simp only [pkAt, Prod.mk.injEq, true_and]
        omega
      | succ t iht =>
        intro ht
        rw [← Nat.add_assoc, rst_succ, iht (by omega)]
        unfold rstep
        rw [if_pos (by simp only []; omega)]
    have := step 15 (by omega)
    rw [show 16 * (j + 1) = 16 * j + 1 + 15 by omega, this]
    simp only [Prod.mk.injEq, true_and]
    omega

theorem rst_part {k : Nat} (hk : k ≤ 256) (p : List Int) (hp : p.length < 16) : ∀ t, t ≤ p.length → rst (sent ds k ++ p) (16 * k + t) = (pks ds k, (if t = 0 then [] else [(((16 * k : Nat) : Int), ((16 * k + t : Nat) : Int))]), ((16 * k + t : Nat) : Int))
  | 0, _ => rst_sent ds hk p k (Nat.le_refl _)
  | t + 1, h => by
    have ih := rst_part hk p hp t (by omega)
    rw [← Nat.add_assoc, rst_succ, ih]
    unfold rstep
    have hb : ¬ (blk (sent ds k ++ p) (16 * k + t)).length = 16 := by
      unfold blk
      simp only [List.length_take, List.length_drop, List.length_append, sent_len]
      omega
    rw [if_neg (by simp only []; omega), if_neg (fun h => hb h.1)]
    simp only [Prod.mk.injEq, true_and]
    refine ⟨?_, by omega⟩
    by_cases ht : t = 0
    · subst ht
      simp [skip]
    · simp [skip, ht]

theorem received_part {k : Nat} (hk : k ≤ 256) (p : List Int) (hp : p.length < 16) : received (sent ds k ++ p) = (pks ds k, (if p.length = 0 then [] else [(((16 * k : Nat) : Int), ((16 * k + p.length : Nat) : Int))]), 0) := by
  unfold received
  have hl : (sent ds k ++ p).length = 16 * k + p.length := by rw [List.length_append, sent_len]
  rw [if_neg (by omega), hl, rst_part ds hk p hp p.length (Nat.le_refl _)]

theorem lost_none {k : Nat} : ∀ i, i < k → lostTo (pks ds k) i = []
  | 0, _ => rfl
  | i + 1, h => by
    rw [lostTo, lost_none i (by omega)]
    have hc : ∀ j, j < k → cnt (pks ds k) j = j := by
      intro j hj
      unfold cnt
      rw [getD_of (by rw [pks_len]; exact hj)]
      simp [pks, pkAt]
    rw [hc i (by omega), hc (i + 1) h]
    unfold gap
    have : ((((i + 1 : Nat) : Int) - (i : Int) - 1) % 256).toNat = 0 := by omega
    rw [this]
    rfl
end
end Go.Sx
