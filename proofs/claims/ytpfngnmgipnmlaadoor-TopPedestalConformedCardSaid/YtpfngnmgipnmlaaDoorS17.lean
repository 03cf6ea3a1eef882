/- A verified symbolic run of functions, part 17: lemmas, no claim of their own. -/
import Derived.Test.YtpfngnmgipnmlaaDoorS16
/- What the engine asks, written out (printed by a program). -/
namespace Go.Sx
open U
theorem vc29 (R : List Rl) : exF (env false [] []) h29 0 29 Proofs.Tryd.f29 [.one (.sl rlT R)] (.val (.one (.sl rlT R))) = ((∃ (g : Nat), Nat.le g (List.length R) ∧ (0 : Int) = (↑g : Int) ∧ (↑(List.length R) : Int) = (↑(List.length R) : Int) ∧ R = R ∧ List.take g R = [] ∧ True) ∧ ∀ (g : Nat), Nat.le g (List.length R) → splitB (decide ((↑g : Int) < (↑(List.length R) : Int))) (((0 : Int) ≤ (↑g : Int) ∧ (↑g : Int) < (↑(List.length R) : Int)) ∧ room (List.length (Prod.snd (Prod.snd (List.getD R g r0)))) (8 : Nat) ∧ room (List.length (List.take g R) + (1 : Nat)) (48 : Nat) ∧ fits IntKind.i64 ((↑g : Int) + (1 : Int)) ∧ ∃ (g' : Nat), Nat.le g' (List.length R) ∧ List.length R - g' < List.length R - g ∧ (↑g : Int) + (1 : Int) = (↑g' : Int) ∧ (↑(List.length R) : Int) = (↑(List.length R) : Int) ∧ R = R ∧ List.take g R ++ [(Prod.fst (List.getD R g r0), Prod.fst (Prod.snd (List.getD R g r0)), Prod.snd (Prod.snd (List.getD R g r0)))] = List.take g' R ∧ True) (List.take g R = R ∧ True)) := by
  kernel_rfl
theorem vc30 (L : List Ed) : exF (env false [] []) h30 0 30 Proofs.Tryd.f30 [.one (.sl edT L)] (.val (.one (.frs edT L))) = ((∃ (g : Nat), Nat.le g (List.length L) ∧ (0 : Int) = (↑g : Int) ∧ (↑(List.length L) : Int) = (↑(List.length L) : Int) ∧ L = L ∧ List.take g L = [] ∧ True) ∧ ∀ (g : Nat), Nat.le g (List.length L) → splitB (decide ((↑g : Int) < (↑(List.length L) : Int))) (((0 : Int) ≤ (↑g : Int) ∧ (↑g : Int) < (↑(List.length L) : Int)) ∧ room (List.length (List.take g L) + (1 : Nat)) (48 : Nat) ∧ fits IntKind.i64 ((↑g : Int) + (1 : Int)) ∧ ∃ (g' : Nat), Nat.le g' (List.length L) ∧ List.length L - g' < List.length L - g ∧ (↑g : Int) + (1 : Int) = (↑g' : Int) ∧ (↑(List.length L) : Int) = (↑(List.length L) : Int) ∧ L = L ∧ List.take g L ++ [(Prod.fst (List.getD L g e0), Prod.fst (Prod.snd (List.getD L g e0)), Prod.fst (Prod.snd (Prod.snd (List.getD L g e0))), Prod.fst (Prod.snd (Prod.snd (Prod.snd (List.getD L g e0)))), Prod.snd (Prod.snd (Prod.snd (Prod.snd (List.getD L g e0)))))] = List.take g' L ∧ True) (List.take g L = L ∧ True)) := by
  kernel_rfl
theorem vc27 (_u : Unit) : exF (env false [(33, sp33), (31, sp31), (34, sp34), (17, sp17), (87, sp87)] []) h0 0 27 Proofs.Tryd.f27 [] (.val (bV true)) = ((2 : Nat) ≤ (1000000000 : Nat) ∧ (∀ (r : Rl), r ∈ [(Array.toList (ByteArray.data { data := #[(97 : UInt8)] }), (10 : Int), [(1 : Int), (2 : Int)]), (Array.toList (ByteArray.data { data := #[(98 : UInt8)] }), (20 : Int), [(30 : Int), (40 : Int)])] → List.length (Prod.snd (Prod.snd r)) ≤ (1000000 : Nat)) ∧ (2 : Nat) ≤ (1000000000 : Nat) ∧ (2 : Nat) ≤ (1000000000 : Nat) ∧ (∀ (r : Rl), r ∈ [(Array.toList (ByteArray.data { data := #[(97 : UInt8)] }), (10 : Int), [(1 : Int), (2 : Int)]), (Array.toList (ByteArray.data { data := #[(98 : UInt8)] }), (20 : Int), [(30 : Int), (40 : Int)])] → List.length (Prod.snd (Prod.snd r)) ≤ (1000000 : Nat)) ∧ (2 : Nat) ≤ (1000000000 : Nat) ∧ (2 : Nat) ≤ (1000000000 : Nat) ∧ (∀ (r : Rl), r ∈ [(Array.toList (ByteArray.data { data := #[(97 : UInt8)] }), (10 : Int), [(1 : Int), (2 : Int)]), (Array.toList (ByteArray.data { data := #[(98 : UInt8)] }), (20 : Int), [(30 : Int), (40 : Int)])] → List.length (Prod.snd (Prod.snd r)) ≤ (1000000 : Nat)) ∧ (2 : Nat) ≤ (1000000000 : Nat) ∧ StOk (((25 : Int), false), ((0 : Int), (0 : Int), (0 : Int), (24 : Int)), (0 : Int)) ∧ ((bif bif chkEds [(Array.toList (ByteArray.data { data := #[(97 : UInt8)] }), (10 : Int), [(1 : Int), (2 : Int)]), (Array.toList (ByteArray.data { data := #[(98 : UInt8)] }), (20 : Int), [(30 : Int), (40 : Int)])] [(Array.toList (ByteArray.data { data := #[(97 : UInt8)] }), (10 : Int), (12 : Int), (0 : Int), (0 : Int)), (Array.toList (ByteArray.data { data := #[(98 : UInt8)] }), (20 : Int), (22 : Int), (0 : Int), (0 : Int))] == (0 : Int) then convE [(Array.toList (ByteArray.data { data := #[(97 : UInt8)] }), (10 : Int), [(1 : Int), (2 : Int)]), (Array.toList (ByteArray.data { data := #[(98 : UInt8)] }), (20 : Int), [(30 : Int), (40 : Int)])] [(Array.toList (ByteArray.data { data := #[(97 : UInt8)] }), (10 : Int), (12 : Int), (0 : Int), (0 : Int)), (Array.toList (ByteArray.data { data := #[(98 : UInt8)] }), (20 : Int), (22 : Int), (0 : Int), (0 : Int))] [(2 : Int), (3 : Int)] == (0 : Int) else false then chkEds [(Array.toList (ByteArray.data { data := #[(97 : UInt8)] }), (10 : Int), [(1 : Int), (2 : Int)]), (Array.toList (ByteArray.data { data := #[(98 : UInt8)] }), (20 : Int), [(30 : Int), (40 : Int)])] [(Array.toList (ByteArray.data { data := #[(97 : UInt8)] }), (10 : Int), (12 : Int), (0 : Int), (0 : Int)), (Array.toList (ByteArray.data { data := #[(98 : UInt8)] }), (20 : Int), (22 : Int), (0 : Int), (0 : Int))] == (0 : Int) else false) = true → List.length (playN [(Array.toList (ByteArray.data { data := #[(97 : UInt8)] }), (10 : Int), [(1 : Int), (2 : Int)]), (Array.toList (ByteArray.data { data := #[(98 : UInt8)] }), (20 : Int), [(30 : Int), (40 : Int)])] [(Array.toList (ByteArray.data { data := #[(97 : UInt8)] }), (10 : Int), (12 : Int), (0 : Int), (0 : Int)), (Array.toList (ByteArray.data { data := #[(98 : UInt8)] }), (20 : Int), (22 : Int), (0 : Int), (0 : Int))]) ≤ (1000000000 : Nat)) ∧ ((bif bif bif chkEds [(Array.toList (ByteArray.data { data := #[(97 : UInt8)] }), (10 : Int), [(1 : Int), (2 : Int)]), (Array.toList (ByteArray.data { data := #[(98 : UInt8)] }), (20 : Int), [(30 : Int), (40 : Int)])] [(Array.toList (ByteArray.data { data := #[(97 : UInt8)] }), (10 : Int), (12 : Int), (0 : Int), (0 : Int)), (Array.toList (ByteArray.data { data := #[(98 : UInt8)] }), (20 : Int), (22 : Int), (0 : Int), (0 : Int))] == (0 : Int) then convE [(Array.toList (ByteArray.data { data := #[(97 : UInt8)] }), (10 : Int), [(1 : Int), (2 : Int)]), (Array.toList (ByteArray.data { data := #[(98 : UInt8)] }), (20 : Int), [(30 : Int), (40 : Int)])] [(Array.toList (ByteArray.data { data := #[(97 : UInt8)] }), (10 : Int), (12 : Int), (0 : Int), (0 : Int)), (Array.toList (ByteArray.data { data := #[(98 : UInt8)] }), (20 : Int), (22 : Int), (0 : Int), (0 : Int))] [(2 : Int), (3 : Int)] == (0 : Int) else false then chkEds [(Array.toList (ByteArray.data { data := #[(97 : UInt8)] }), (10 : Int), [(1 : Int), (2 : Int)]), (Array.toList (ByteArray.data { data := #[(98 : UInt8)] }), (20 : Int), [(30 : Int), (40 : Int)])] [(Array.toList (ByteArray.data { data := #[(97 : UInt8)] }), (10 : Int), (12 : Int), (0 : Int), (0 : Int)), (Array.toList (ByteArray.data { data := #[(98 : UInt8)] }), (20 : Int), (22 : Int), (0 : Int), (0 : Int))] == (0 : Int) else false then decide (playN [(Array.toList (ByteArray.data { data := #[(97 : UInt8)] }), (10 : Int), [(1 : Int), (2 : Int)]), (Array.toList (ByteArray.data { data := #[(98 : UInt8)] }), (20 : Int), [(30 : Int), (40 : Int)])] [(Array.toList (ByteArray.data { data := #[(97 : UInt8)] }), (10 : Int), (12 : Int), (0 : Int), (0 : Int)), (Array.toList (ByteArray.data { data := #[(98 : UInt8)] }), (20 : Int), (22 : Int), (0 : Int), (0 : Int))] = [(1 : Int), (2 : Int), (30 : Int), (40 : Int)]) else false) = true → List.length (convL [(Array.toList (ByteArray.data { data := #[(97 : UInt8)] }), (10 : Int), [(1 : Int), (2 : Int)]), (Array.toList (ByteArray.data { data := #[(98 : UInt8)] }), (20 : Int), [(30 : Int), (40 : Int)])] [(Array.toList (ByteArray.data { data := #[(97 : UInt8)] }), (10 : Int), (12 : Int), (0 : Int), (0 : Int)), (Array.toList (ByteArray.data { data := #[(98 : UInt8)] }), (20 : Int), (22 : Int), (0 : Int), (0 : Int))] [(2 : Int), (3 : Int)]) ≤ (1000000 : Nat)) ∧ ((bif bif bif chkEds [(Array.toList (ByteArray.data { data := #[(97 : UInt8)] }), (10 : Int), [(1 : Int), (2 : Int)]), (Array.toList (ByteArray.data { data := #[(98 : UInt8)] }), (20 : Int), [(30 : Int), (40 : Int)])] [(Array.toList (ByteArray.data { data := #[(97 : UInt8)] }), (10 : Int), (12 : Int), (0 : Int), (0 : Int)), (Array.toList (ByteArray.data { data := #[(98 : UInt8)] }), (20 : Int), (22 : Int), (0 : Int), (0 : Int))] == (0 : Int) then convE [(Array.toList (ByteArray.data { data := #[(97 : UInt8)] }), (10 : Int), [(1 : Int), (2 : Int)]), (Array.toList (ByteArray.data { data := #[(98 : UInt8)] }), (20 : Int), [(30 : Int), (40 : Int)])] [(Array.toList (ByteArray.data { data := #[(97 : UInt8)] }), (10 : Int), (12 : Int), (0 : Int), (0 : Int)), (Array.toList (ByteArray.data { data := #[(98 : UInt8)] }), (20 : Int), (22 : Int), (0 : Int), (0 : Int))] [(2 : Int), (3 : Int)] == (0 : Int) else false then chkEds [(Array.toList (ByteArray.data { data := #[(97 : UInt8)] }), (10 : Int), [(1 : Int), (2 : Int)]), (Array.toList (ByteArray.data { data := #[(98 : UInt8)] }), (20 : Int), [(30 : Int), (40 : Int)])] [(Array.toList (ByteArray.data { data := #[(97 : UInt8)] }), (10 : Int), (12 : Int), (0 : Int), (0 : Int)), (Array.toList (ByteArray.data { data := #[(98 : UInt8)] }), (20 : Int), (22 : Int), (0 : Int), (0 : Int))] == (0 : Int) else false then decide (playN [(Array.toList (ByteArray.data { data := #[(97 : UInt8)] }), (10 : Int), [(1 : Int), (2 : Int)]), (Array.toList (ByteArray.data { data := #[(98 : UInt8)] }), (20 : Int), [(30 : Int), (40 : Int)])] [(Array.toList (ByteArray.data { data := #[(97 : UInt8)] }), (10 : Int), (12 : Int), (0 : Int), (0 : Int)), (Array.toList (ByteArray.data { data := #[(98 : UInt8)] }), (20 : Int), (22 : Int), (0 : Int), (0 : Int))] = [(1 : Int), (2 : Int), (30 : Int), (40 : Int)]) else false) = true → ∀ (x : List Int), x ∈ convL [(Array.toList (ByteArray.data { data := #[(97 : UInt8)] }), (10 : Int), [(1 : Int), (2 : Int)]), (Array.toList (ByteArray.data { data := #[(98 : UInt8)] }), (20 : Int), [(30 : Int), (40 : Int)])] [(Array.toList (ByteArray.data { data := #[(97 : UInt8)] }), (10 : Int), (12 : Int), (0 : Int), (0 : Int)), (Array.toList (ByteArray.data { data := #[(98 : UInt8)] }), (20 : Int), (22 : Int), (0 : Int), (0 : Int))] [(2 : Int), (3 : Int)] → List.length x = (2 : Nat)) ∧ ((bif bif bif chkEds [(Array.toList (ByteArray.data { data := #[(97 : UInt8)] }), (10 : Int), [(1 : Int), (2 : Int)]), (Array.toList (ByteArray.data { data := #[(98 : UInt8)] }), (20 : Int), [(30 : Int), (40 : Int)])] [(Array.toList (ByteArray.data { data := #[(97 : UInt8)] }), (10 : Int), (12 : Int), (0 : Int), (0 : Int)), (Array.toList (ByteArray.data { data := #[(98 : UInt8)] }), (20 : Int), (22 : Int), (0 : Int), (0 : Int))] == (0 : Int) then convE [(Array.toList (ByteArray.data { data := #[(97 : UInt8)] }), (10 : Int), [(1 : Int), (2 : Int)]), (Array.toList (ByteArray.data { data := #[(98 : UInt8)] }), (20 : Int), [(30 : Int), (40 : Int)])] [(Array.toList (ByteArray.data { data := #[(97 : UInt8)] }), (10 : Int), (12 : Int), (0 : Int), (0 : Int)), (Array.toList (ByteArray.data { data := #[(98 : UInt8)] }), (20 : Int), (22 : Int), (0 : Int), (0 : Int))] [(2 : Int), (3 : Int)] == (0 : Int) else false then chkEds [(Array.toList (ByteArray.data { data := #[(97 : UInt8)] }), (10 : Int), [(1 : Int), (2 : Int)]), (Array.toList (ByteArray.data { data := #[(98 : UInt8)] }), (20 : Int), [(30 : Int), (40 : Int)])] [(Array.toList (ByteArray.data { data := #[(97 : UInt8)] }), (10 : Int), (12 : Int), (0 : Int), (0 : Int)), (Array.toList (ByteArray.data { data := #[(98 : UInt8)] }), (20 : Int), (22 : Int), (0 : Int), (0 : Int))] == (0 : Int) else false then decide (playN [(Array.toList (ByteArray.data { data := #[(97 : UInt8)] }), (10 : Int), [(1 : Int), (2 : Int)]), (Array.toList (ByteArray.data { data := #[(98 : UInt8)] }), (20 : Int), [(30 : Int), (40 : Int)])] [(Array.toList (ByteArray.data { data := #[(97 : UInt8)] }), (10 : Int), (12 : Int), (0 : Int), (0 : Int)), (Array.toList (ByteArray.data { data := #[(98 : UInt8)] }), (20 : Int), (22 : Int), (0 : Int), (0 : Int))] = [(1 : Int), (2 : Int), (30 : Int), (40 : Int)]) else false) = true → ∀ (x : List Int), x ∈ [[(0 : Int), (0 : Int)], [(1 : Int), (1 : Int)], [(1 : Int), (2 : Int)], [(2 : Int), (3 : Int)], [(3 : Int), (3 : Int)]] → List.length x = (2 : Nat)) ∧ ((bif bif bif bif bif chkEds [(Array.toList (ByteArray.data { data := #[(97 : UInt8)] }), (10 : Int), [(1 : Int), (2 : Int)]), (Array.toList (ByteArray.data { data := #[(98 : UInt8)] }), (20 : Int), [(30 : Int), (40 : Int)])] [(Array.toList (ByteArray.data { data := #[(97 : UInt8)] }), (10 : Int), (12 : Int), (0 : Int), (0 : Int)), (Array.toList (ByteArray.data { data := #[(98 : UInt8)] }), (20 : Int), (22 : Int), (0 : Int), (0 : Int))] == (0 : Int) then convE [(Array.toList (ByteArray.data { data := #[(97 : UInt8)] }), (10 : Int), [(1 : Int), (2 : Int)]), (Array.toList (ByteArray.data { data := #[(98 : UInt8)] }), (20 : Int), [(30 : Int), (40 : Int)])] [(Array.toList (ByteArray.data { data := #[(97 : UInt8)] }), (10 : Int), (12 : Int), (0 : Int), (0 : Int)), (Array.toList (ByteArray.data { data := #[(98 : UInt8)] }), (20 : Int), (22 : Int), (0 : Int), (0 : Int))] [(2 : Int), (3 : Int)] == (0 : Int) else false then chkEds [(Array.toList (ByteArray.data { data := #[(97 : UInt8)] }), (10 : Int), [(1 : Int), (2 : Int)]), (Array.toList (ByteArray.data { data := #[(98 : UInt8)] }), (20 : Int), [(30 : Int), (40 : Int)])] [(Array.toList (ByteArray.data { data := #[(97 : UInt8)] }), (10 : Int), (12 : Int), (0 : Int), (0 : Int)), (Array.toList (ByteArray.data { data := #[(98 : UInt8)] }), (20 : Int), (22 : Int), (0 : Int), (0 : Int))] == (0 : Int) else false then decide (playN [(Array.toList (ByteArray.data { data := #[(97 : UInt8)] }), (10 : Int), [(1 : Int), (2 : Int)]), (Array.toList (ByteArray.data { data := #[(98 : UInt8)] }), (20 : Int), [(30 : Int), (40 : Int)])] [(Array.toList (ByteArray.data { data := #[(97 : UInt8)] }), (10 : Int), (12 : Int), (0 : Int), (0 : Int)), (Array.toList (ByteArray.data { data := #[(98 : UInt8)] }), (20 : Int), (22 : Int), (0 : Int), (0 : Int))] = [(1 : Int), (2 : Int), (30 : Int), (40 : Int)]) else false then decide (convL [(Array.toList (ByteArray.data { data := #[(97 : UInt8)] }), (10 : Int), [(1 : Int), (2 : Int)]), (Array.toList (ByteArray.data { data := #[(98 : UInt8)] }), (20 : Int), [(30 : Int), (40 : Int)])] [(Array.toList (ByteArray.data { data := #[(97 : UInt8)] }), (10 : Int), (12 : Int), (0 : Int), (0 : Int)), (Array.toList (ByteArray.data { data := #[(98 : UInt8)] }), (20 : Int), (22 : Int), (0 : Int), (0 : Int))] [(2 : Int), (3 : Int)] = [[(0 : Int), (0 : Int)], [(1 : Int), (1 : Int)], [(1 : Int), (2 : Int)], [(2 : Int), (3 : Int)], [(3 : Int), (3 : Int)]]) else false then (↑(List.length (if chkEds [(Array.toList (ByteArray.data { data := #[(97 : UInt8)] }), (10 : Int), [(1 : Int), (2 : Int)]), (Array.toList (ByteArray.data { data := #[(98 : UInt8)] }), (20 : Int), [(30 : Int), (40 : Int)])] [(Array.toList (ByteArray.data { data := #[(97 : UInt8)] }), (10 : Int), (12 : Int), (0 : Int), (0 : Int)), (Array.toList (ByteArray.data { data := #[(98 : UInt8)] }), (20 : Int), (22 : Int), (0 : Int), (0 : Int))] = (0 : Int) then labsN (((25 : Int), false), ((0 : Int), (0 : Int), (0 : Int), (24 : Int)), (0 : Int)) (ls [(Array.toList (ByteArray.data { data := #[(97 : UInt8)] }), (10 : Int), (12 : Int), (0 : Int), (0 : Int)), (Array.toList (ByteArray.data { data := #[(98 : UInt8)] }), (20 : Int), (22 : Int), (0 : Int), (0 : Int))]) else [])) : Int) == (2 : Int) else false) = true → (0 : Int) ≤ (1 : Int) ∧ (1 : Int) < (↑(List.length (if chkEds [(Array.toList (ByteArray.data { data := #[(97 : UInt8)] }), (10 : Int), [(1 : Int), (2 : Int)]), (Array.toList (ByteArray.data { data := #[(98 : UInt8)] }), (20 : Int), [(30 : Int), (40 : Int)])] [(Array.toList (ByteArray.data { data := #[(97 : UInt8)] }), (10 : Int), (12 : Int), (0 : Int), (0 : Int)), (Array.toList (ByteArray.data { data := #[(98 : UInt8)] }), (20 : Int), (22 : Int), (0 : Int), (0 : Int))] = (0 : Int) then labsN (((25 : Int), false), ((0 : Int), (0 : Int), (0 : Int), (24 : Int)), (0 : Int)) (ls [(Array.toList (ByteArray.data { data := #[(97 : UInt8)] }), (10 : Int), (12 : Int), (0 : Int), (0 : Int)), (Array.toList (ByteArray.data { data := #[(98 : UInt8)] }), (20 : Int), (22 : Int), (0 : Int), (0 : Int))]) else [])) : Int)) ∧ ((bif bif bif bif bif chkEds [(Array.toList (ByteArray.data { data := #[(97 : UInt8)] }), (10 : Int), [(1 : Int), (2 : Int)]), (Array.toList (ByteArray.data { data := #[(98 : UInt8)] }), (20 : Int), [(30 : Int), (40 : Int)])] [(Array.toList (ByteArray.data { data := #[(97 : UInt8)] }), (10 : Int), (12 : Int), (0 : Int), (0 : Int)), (Array.toList (ByteArray.data { data := #[(98 : UInt8)] }), (20 : Int), (22 : Int), (0 : Int), (0 : Int))] == (0 : Int) then convE [(Array.toList (ByteArray.data { data := #[(97 : UInt8)] }), (10 : Int), [(1 : Int), (2 : Int)]), (Array.toList (ByteArray.data { data := #[(98 : UInt8)] }), (20 : Int), [(30 : Int), (40 : Int)])] [(Array.toList (ByteArray.data { data := #[(97 : UInt8)] }), (10 : Int), (12 : Int), (0 : Int), (0 : Int)), (Array.toList (ByteArray.data { data := #[(98 : UInt8)] }), (20 : Int), (22 : Int), (0 : Int), (0 : Int))] [(2 : Int), (3 : Int)] == (0 : Int) else false then chkEds [(Array.toList (ByteArray.data { data := #[(97 : UInt8)] }), (10 : Int), [(1 : Int), (2 : Int)]), (Array.toList (ByteArray.data { data := #[(98 : UInt8)] }), (20 : Int), [(30 : Int), (40 : Int)])] [(Array.toList (ByteArray.data { data := #[(97 : UInt8)] }), (10 : Int), (12 : Int), (0 : Int), (0 : Int)), (Array.toList (ByteArray.data { data := #[(98 : UInt8)] }), (20 : Int), (22 : Int), (0 : Int), (0 : Int))] == (0 : Int) else false then decide (playN [(Array.toList (ByteArray.data { data := #[(97 : UInt8)] }), (10 : Int), [(1 : Int), (2 : Int)]), (Array.toList (ByteArray.data { data := #[(98 : UInt8)] }), (20 : Int), [(30 : Int), (40 : Int)])] [(Array.toList (ByteArray.data { data := #[(97 : UInt8)] }), (10 : Int), (12 : Int), (0 : Int), (0 : Int)), (Array.toList (ByteArray.data { data := #[(98 : UInt8)] }), (20 : Int), (22 : Int), (0 : Int), (0 : Int))] = [(1 : Int), (2 : Int), (30 : Int), (40 : Int)]) else false then decide (convL [(Array.toList (ByteArray.data { data := #[(97 : UInt8)] }), (10 : Int), [(1 : Int), (2 : Int)]), (Array.toList (ByteArray.data { data := #[(98 : UInt8)] }), (20 : Int), [(30 : Int), (40 : Int)])] [(Array.toList (ByteArray.data { data := #[(97 : UInt8)] }), (10 : Int), (12 : Int), (0 : Int), (0 : Int)), (Array.toList (ByteArray.data { data := #[(98 : UInt8)] }), (20 : Int), (22 : Int), (0 : Int), (0 : Int))] [(2 : Int), (3 : Int)] = [[(0 : Int), (0 : Int)], [(1 : Int), (1 : Int)], [(1 : Int), (2 : Int)], [(2 : Int), (3 : Int)], [(3 : Int), (3 : Int)]]) else false then (↑(List.length (if chkEds [(Array.toList (ByteArray.data { data := #[(97 : UInt8)] }), (10 : Int), [(1 : Int), (2 : Int)]), (Array.toList (ByteArray.data { data := #[(98 : UInt8)] }), (20 : Int), [(30 : Int), (40 : Int)])] [(Array.toList (ByteArray.data { data := #[(97 : UInt8)] }), (10 : Int), (12 : Int), (0 : Int), (0 : Int)), (Array.toList (ByteArray.data { data := #[(98 : UInt8)] }), (20 : Int), (22 : Int), (0 : Int), (0 : Int))] = (0 : Int) then labsN (((25 : Int), false), ((0 : Int), (0 : Int), (0 : Int), (24 : Int)), (0 : Int)) (ls [(Array.toList (ByteArray.data { data := #[(97 : UInt8)] }), (10 : Int), (12 : Int), (0 : Int), (0 : Int)), (Array.toList (ByteArray.data { data := #[(98 : UInt8)] }), (20 : Int), (22 : Int), (0 : Int), (0 : Int))]) else [])) : Int) == (2 : Int) else false) = true → (1 : Nat) < List.length (if chkEds [(Array.toList (ByteArray.data { data := #[(97 : UInt8)] }), (10 : Int), [(1 : Int), (2 : Int)]), (Array.toList (ByteArray.data { data := #[(98 : UInt8)] }), (20 : Int), [(30 : Int), (40 : Int)])] [(Array.toList (ByteArray.data { data := #[(97 : UInt8)] }), (10 : Int), (12 : Int), (0 : Int), (0 : Int)), (Array.toList (ByteArray.data { data := #[(98 : UInt8)] }), (20 : Int), (22 : Int), (0 : Int), (0 : Int))] = (0 : Int) then labsN (((25 : Int), false), ((0 : Int), (0 : Int), (0 : Int), (24 : Int)), (0 : Int)) (ls [(Array.toList (ByteArray.data { data := #[(97 : UInt8)] }), (10 : Int), (12 : Int), (0 : Int), (0 : Int)), (Array.toList (ByteArray.data { data := #[(98 : UInt8)] }), (20 : Int), (22 : Int), (0 : Int), (0 : Int))]) else [])) ∧ (bif bif bif bif bif bif chkEds [(Array.toList (ByteArray.data { data := #[(97 : UInt8)] }), (10 : Int), [(1 : Int), (2 : Int)]), (Array.toList (ByteArray.data { data := #[(98 : UInt8)] }), (20 : Int), [(30 : Int), (40 : Int)])] [(Array.toList (ByteArray.data { data := #[(97 : UInt8)] }), (10 : Int), (12 : Int), (0 : Int), (0 : Int)), (Array.toList (ByteArray.data { data := #[(98 : UInt8)] }), (20 : Int), (22 : Int), (0 : Int), (0 : Int))] == (0 : Int) then convE [(Array.toList (ByteArray.data { data := #[(97 : UInt8)] }), (10 : Int), [(1 : Int), (2 : Int)]), (Array.toList (ByteArray.data { data := #[(98 : UInt8)] }), (20 : Int), [(30 : Int), (40 : Int)])] [(Array.toList (ByteArray.data { data := #[(97 : UInt8)] }), (10 : Int), (12 : Int), (0 : Int), (0 : Int)), (Array.toList (ByteArray.data { data := #[(98 : UInt8)] }), (20 : Int), (22 : Int), (0 : Int), (0 : Int))] [(2 : Int), (3 : Int)] == (0 : Int) else false then chkEds [(Array.toList (ByteArray.data { data := #[(97 : UInt8)] }), (10 : Int), [(1 : Int), (2 : Int)]), (Array.toList (ByteArray.data { data := #[(98 : UInt8)] }), (20 : Int), [(30 : Int), (40 : Int)])] [(Array.toList (ByteArray.data { data := #[(97 : UInt8)] }), (10 : Int), (12 : Int), (0 : Int), (0 : Int)), (Array.toList (ByteArray.data { data := #[(98 : UInt8)] }), (20 : Int), (22 : Int), (0 : Int), (0 : Int))] == (0 : Int) else false then decide (playN [(Array.toList (ByteArray.data { data := #[(97 : UInt8)] }), (10 : Int), [(1 : Int), (2 : Int)]), (Array.toList (ByteArray.data { data := #[(98 : UInt8)] }), (20 : Int), [(30 : Int), (40 : Int)])] [(Array.toList (ByteArray.data { data := #[(97 : UInt8)] }), (10 : Int), (12 : Int), (0 : Int), (0 : Int)), (Array.toList (ByteArray.data { data := #[(98 : UInt8)] }), (20 : Int), (22 : Int), (0 : Int), (0 : Int))] = [(1 : Int), (2 : Int), (30 : Int), (40 : Int)]) else false then decide (convL [(Array.toList (ByteArray.data { data := #[(97 : UInt8)] }), (10 : Int), [(1 : Int), (2 : Int)]), (Array.toList (ByteArray.data { data := #[(98 : UInt8)] }), (20 : Int), [(30 : Int), (40 : Int)])] [(Array.toList (ByteArray.data { data := #[(97 : UInt8)] }), (10 : Int), (12 : Int), (0 : Int), (0 : Int)), (Array.toList (ByteArray.data { data := #[(98 : UInt8)] }), (20 : Int), (22 : Int), (0 : Int), (0 : Int))] [(2 : Int), (3 : Int)] = [[(0 : Int), (0 : Int)], [(1 : Int), (1 : Int)], [(1 : Int), (2 : Int)], [(2 : Int), (3 : Int)], [(3 : Int), (3 : Int)]]) else false then (↑(List.length (if chkEds [(Array.toList (ByteArray.data { data := #[(97 : UInt8)] }), (10 : Int), [(1 : Int), (2 : Int)]), (Array.toList (ByteArray.data { data := #[(98 : UInt8)] }), (20 : Int), [(30 : Int), (40 : Int)])] [(Array.toList (ByteArray.data { data := #[(97 : UInt8)] }), (10 : Int), (12 : Int), (0 : Int), (0 : Int)), (Array.toList (ByteArray.data { data := #[(98 : UInt8)] }), (20 : Int), (22 : Int), (0 : Int), (0 : Int))] = (0 : Int) then labsN (((25 : Int), false), ((0 : Int), (0 : Int), (0 : Int), (24 : Int)), (0 : Int)) (ls [(Array.toList (ByteArray.data { data := #[(97 : UInt8)] }), (10 : Int), (12 : Int), (0 : Int), (0 : Int)), (Array.toList (ByteArray.data { data := #[(98 : UInt8)] }), (20 : Int), (22 : Int), (0 : Int), (0 : Int))]) else [])) : Int) == (2 : Int) else false then eqT (Ty.pair (Ty.int IntKind.i64) (Ty.pair (Ty.int IntKind.i64) (Ty.pair (Ty.int IntKind.i64) (Ty.int IntKind.i64)))) (Prod.fst (List.getD (if chkEds [(Array.toList (ByteArray.data { data := #[(97 : UInt8)] }), (10 : Int), [(1 : Int), (2 : Int)]), (Array.toList (ByteArray.data { data := #[(98 : UInt8)] }), (20 : Int), [(30 : Int), (40 : Int)])] [(Array.toList (ByteArray.data { data := #[(97 : UInt8)] }), (10 : Int), (12 : Int), (0 : Int), (0 : Int)), (Array.toList (ByteArray.data { data := #[(98 : UInt8)] }), (20 : Int), (22 : Int), (0 : Int), (0 : Int))] = (0 : Int) then labsN (((25 : Int), false), ((0 : Int), (0 : Int), (0 : Int), (24 : Int)), (0 : Int)) (ls [(Array.toList (ByteArray.data { data := #[(97 : UInt8)] }), (10 : Int), (12 : Int), (0 : Int), (0 : Int)), (Array.toList (ByteArray.data { data := #[(98 : UInt8)] }), (20 : Int), (22 : Int), (0 : Int), (0 : Int))]) else []) (1 : Nat) ((0 : Int), (0 : Int), (0 : Int), (0 : Int))), Prod.fst (Prod.snd (List.getD (if chkEds [(Array.toList (ByteArray.data { data := #[(97 : UInt8)] }), (10 : Int), [(1 : Int), (2 : Int)]), (Array.toList (ByteArray.data { data := #[(98 : UInt8)] }), (20 : Int), [(30 : Int), (40 : Int)])] [(Array.toList (ByteArray.data { data := #[(97 : UInt8)] }), (10 : Int), (12 : Int), (0 : Int), (0 : Int)), (Array.toList (ByteArray.data { data := #[(98 : UInt8)] }), (20 : Int), (22 : Int), (0 : Int), (0 : Int))] = (0 : Int) then labsN (((25 : Int), false), ((0 : Int), (0 : Int), (0 : Int), (24 : Int)), (0 : Int)) (ls [(Array.toList (ByteArray.data { data := #[(97 : UInt8)] }), (10 : Int), (12 : Int), (0 : Int), (0 : Int)), (Array.toList (ByteArray.data { data := #[(98 : UInt8)] }), (20 : Int), (22 : Int), (0 : Int), (0 : Int))]) else []) (1 : Nat) ((0 : Int), (0 : Int), (0 : Int), (0 : Int)))), Prod.fst (Prod.snd (Prod.snd (List.getD (if chkEds [(Array.toList (ByteArray.data { data := #[(97 : UInt8)] }), (10 : Int), [(1 : Int), (2 : Int)]), (Array.toList (ByteArray.data { data := #[(98 : UInt8)] }), (20 : Int), [(30 : Int), (40 : Int)])] [(Array.toList (ByteArray.data { data := #[(97 : UInt8)] }), (10 : Int), (12 : Int), (0 : Int), (0 : Int)), (Array.toList (ByteArray.data { data := #[(98 : UInt8)] }), (20 : Int), (22 : Int), (0 : Int), (0 : Int))] = (0 : Int) then labsN (((25 : Int), false), ((0 : Int), (0 : Int), (0 : Int), (24 : Int)), (0 : Int)) (ls [(Array.toList (ByteArray.data { data := #[(97 : UInt8)] }), (10 : Int), (12 : Int), (0 : Int), (0 : Int)), (Array.toList (ByteArray.data { data := #[(98 : UInt8)] }), (20 : Int), (22 : Int), (0 : Int), (0 : Int))]) else []) (1 : Nat) ((0 : Int), (0 : Int), (0 : Int), (0 : Int))))), Prod.snd (Prod.snd (Prod.snd (List.getD (if chkEds [(Array.toList (ByteArray.data { data := #[(97 : UInt8)] }), (10 : Int), [(1 : Int), (2 : Int)]), (Array.toList (ByteArray.data { data := #[(98 : UInt8)] }), (20 : Int), [(30 : Int), (40 : Int)])] [(Array.toList (ByteArray.data { data := #[(97 : UInt8)] }), (10 : Int), (12 : Int), (0 : Int), (0 : Int)), (Array.toList (ByteArray.data { data := #[(98 : UInt8)] }), (20 : Int), (22 : Int), (0 : Int), (0 : Int))] = (0 : Int) then labsN (((25 : Int), false), ((0 : Int), (0 : Int), (0 : Int), (24 : Int)), (0 : Int)) (ls [(Array.toList (ByteArray.data { data := #[(97 : UInt8)] }), (10 : Int), (12 : Int), (0 : Int), (0 : Int)), (Array.toList (ByteArray.data { data := #[(98 : UInt8)] }), (20 : Int), (22 : Int), (0 : Int), (0 : Int))]) else []) (1 : Nat) ((0 : Int), (0 : Int), (0 : Int), (0 : Int)))))) ((0 : Int), (0 : Int), (1 : Int), (1 : Int)) else false) = true ∧ True) := by
  kernel_rfl
theorem vc35 (F : Int) (D : Bool) (h m s f u : Int) : exF (env false [] []) h0 0 35 Proofs.Tryd.f35 [stV F D h m s f u] (.val (stV F D h m s f u)) = (F = F ∧ D = D ∧ h = h ∧ m = m ∧ s = s ∧ f = f ∧ u = u ∧ True) := by
  kernel_rfl
theorem vc5 (R : List Rl) (L : List Ed) (l : List Int) (F : Int) (D : Bool) (hh mm ss ff uu : Int) : exF (env false [(35, sp35), (24, sp24), (25, sp25), (26, sp26), (8, sp8), (27, sp27), (29, sp29), (30, sp30), (28, sp28), (31, sp31), (33, sp33), (34, sp34), (32, sp32), (10, sp10), (11, sp11), (17, sp17)] []) h5 0 5 Proofs.Tryd.f5 [.one (.sl rlT R), .one (.sl edT L), .agg [.one (.sl (.int .i64) l), .one (.int .i64 F), .one (.bool D), .one (.int .i64 hh), .one (.int .i64 mm), .one (.int .i64 ss), .one (.int .i64 ff), .one (.int .i64 uu)]] (.val (bV true)) = (List.length R ≤ (9223372036854775807 : Nat) ∧ List.length L ≤ (9223372036854775807 : Nat) ∧ ((!shortB R L) = false → List.length R ≤ (1000000000 : Nat)) ∧ ((!shortB R L) = false → ∀ (r : Rl), r ∈ R → List.length (Prod.snd (Prod.snd r)) ≤ (1000000 : Nat) ∧ List.length (Prod.fst r) ≤ (1000000000 : Nat)) ∧ ((!shortB R L) = false → List.length L ≤ (1000000000 : Nat)) ∧ ((!shortB R L) = false → ∀ (x : Ed), x ∈ L → fits IntKind.i64 (Prod.fst (Prod.snd (Prod.snd x)))) ∧ splitB (bif bif bif bif !shortB R L then true else chkEds R L != (0 : Int) then true else decide ((8 : Int) < (↑(List.length l) : Int)) then true else chkCad l != (0 : Int) then true else chkStamp F D hh mm ss ff uu != (0 : Int)) (true = true ∧ True) (List.length R ≤ (1000000 : Nat) ∧ (∀ (r : Rl), r ∈ R → List.length (Prod.snd (Prod.snd r)) ≤ (1000000 : Nat)) ∧ List.length L ≤ (1000000 : Nat) ∧ List.length R ≤ (1000000000 : Nat) ∧ (∀ (r : Rl), r ∈ R → List.length (Prod.snd (Prod.snd r)) ≤ (1000000 : Nat)) ∧ List.length L ≤ (1000000000 : Nat) ∧ List.length R ≤ (1000000 : Nat) ∧ (∀ (r : Rl), r ∈ R → List.length (Prod.snd (Prod.snd r)) ≤ (1000000 : Nat)) ∧ List.length L ≤ (1000000 : Nat) ∧ room (List.length l) (8 : Nat) ∧ List.length R ≤ (1000000000 : Nat) ∧ (∀ (r : Rl), r ∈ R → List.length (Prod.snd (Prod.snd r)) ≤ (1000000 : Nat)) ∧ List.length L ≤ (1000000000 : Nat) ∧ splitB (bif bif bif bif chkEds R L != (0 : Int) then true else convE R L l != (0 : Int) then true else (↑(List.length (startsN R L)) : Int) != (↑(List.length L) : Int) then true else decide (lenN R L < (0 : Int)) then true else decide ((256 : Int) < lenN R L)) (false = true ∧ True) (room ((0 : Nat) + List.length l) (8 : Nat) ∧ room ((0 : Nat) + List.length (convL R L l)) (16 : Nat) ∧ chkCad l = (0 : Int) ∧ List.length (convL R L l) ≤ (512 : Nat) ∧ (∀ (x : List Int), x ∈ convL R L l → List.length x = (2 : Nat)) ∧ (∃ (n : Nat), n ≤ (256 : Nat) ∧ pullN l n = convL R L l) ∧ ((bif (0 : Int) != (0 : Int) then true else decide (lenN R L < (↑(undN l (convL R L l)) : Int))) = false → fits IntKind.i64 (lenN R L - (1 : Int))) ∧ splitB (bif bif (0 : Int) != (0 : Int) then true else decide (lenN R L < (↑(undN l (convL R L l)) : Int)) then true else decide ((↑(undN l (convL R L l)) : Int) < lenN R L - (1 : Int))) (false = true ∧ True) ((∃ (g : Nat), Nat.le g (List.length (convL R L l)) ∧ (0 : Int) = (↑g : Int) ∧ (0 : Int) = lastP (convL R L l) g ∧ (↑(List.length (convL R L l)) : Int) = (↑(List.length (convL R L l)) : Int) ∧ lenN R L = lenN R L ∧ R = R ∧ L = L ∧ convL R L l = convL R L l ∧ l = l ∧ convL R L l = convL R L l ∧ L = L ∧ startsN R L = startsN R L ∧ L = L ∧ l = l ∧ F = F ∧ D = D ∧ hh = hh ∧ mm = mm ∧ ss = ss ∧ ff = ff ∧ uu = uu ∧ True) ∧ ∀ (g : Nat), Nat.le g (List.length (convL R L l)) → splitB (decide ((↑g : Int) < (↑(List.length (convL R L l)) : Int))) (((0 : Int) ≤ (↑g : Int) ∧ (↑g : Int) < (↑(List.length (convL R L l)) : Int)) ∧ g < List.length (convL R L l) ∧ ((0 : Int) ≤ (0 : Int) ∧ (0 : Int) < (2 : Int)) ∧ (decide (List.getD (List.getD (convL R L l) g (List.replicate (2 : Nat) (0 : Int))) (0 : Nat) (0 : Int) < lastP (convL R L l) g) = false → fits IntKind.i64 (lastP (convL R L l) g + (1 : Int))) ∧ splitB (bif bif decide (List.getD (List.getD (convL R L l) g (List.replicate (2 : Nat) (0 : Int))) (0 : Nat) (0 : Int) < lastP (convL R L l) g) then true else decide (lastP (convL R L l) g + (1 : Int) < List.getD (List.getD (convL R L l) g (List.replicate (2 : Nat) (0 : Int))) (0 : Nat) (0 : Int)) then true else decide (lenN R L ≤ List.getD (List.getD (convL R L l) g (List.replicate (2 : Nat) (0 : Int))) (0 : Nat) (0 : Int))) (false = true ∧ True) (fits IntKind.i64 (1 : Int) ∧ ((0 : Int) ≤ (1 : Int) ∧ (1 : Int) < (2 : Int)) ∧ (decide (List.getD (List.getD (convL R L l) g (List.replicate (2 : Nat) (0 : Int))) (1 : Nat) (0 : Int) < List.getD (List.getD (convL R L l) g (List.replicate (2 : Nat) (0 : Int))) (0 : Nat) (0 : Int)) = false → fits IntKind.i64 (List.getD (List.getD (convL R L l) g (List.replicate (2 : Nat) (0 : Int))) (0 : Nat) (0 : Int) + (1 : Int))) ∧ splitB (bif bif decide (List.getD (List.getD (convL R L l) g (List.replicate (2 : Nat) (0 : Int))) (1 : Nat) (0 : Int) < List.getD (List.getD (convL R L l) g (List.replicate (2 : Nat) (0 : Int))) (0 : Nat) (0 : Int)) then true else decide (List.getD (List.getD (convL R L l) g (List.replicate (2 : Nat) (0 : Int))) (0 : Nat) (0 : Int) + (1 : Int) < List.getD (List.getD (convL R L l) g (List.replicate (2 : Nat) (0 : Int))) (1 : Nat) (0 : Int)) then true else decide (lenN R L ≤ List.getD (List.getD (convL R L l) g (List.replicate (2 : Nat) (0 : Int))) (1 : Nat) (0 : Int))) (false = true ∧ True) (fits IntKind.i64 (2 : Int) ∧ fits IntKind.i64 ((↑g : Int) + (1 : Int)) ∧ ∃ (g' : Nat), Nat.le g' (List.length (convL R L l)) ∧ List.length (convL R L l) - g' < List.length (convL R L l) - g ∧ (↑g : Int) + (1 : Int) = (↑g' : Int) ∧ List.getD (List.getD (convL R L l) g (List.replicate (2 : Nat) (0 : Int))) (1 : Nat) (0 : Int) = lastP (convL R L l) g' ∧ (↑(List.length (convL R L l)) : Int) = (↑(List.length (convL R L l)) : Int) ∧ lenN R L = lenN R L ∧ R = R ∧ L = L ∧ convL R L l = convL R L l ∧ l = l ∧ convL R L l = convL R L l ∧ L = L ∧ startsN R L = startsN R L ∧ L = L ∧ l = l ∧ F = F ∧ D = D ∧ hh = hh ∧ mm = mm ∧ ss = ss ∧ ff = ff ∧ uu = uu ∧ True))) (room ((0 : Nat) + List.length L) (48 : Nat) ∧ (∃ (g : Nat), Nat.le g (List.length L) ∧ (0 : Int) = (↑g : Int) ∧ (↑(List.length L) : Int) = (↑(List.length L) : Int) ∧ lenN R L = lenN R L ∧ R = R ∧ L = L ∧ L = plnTo L g ∧ startsN R L = startsN R L ∧ l = l ∧ F = F ∧ D = D ∧ hh = hh ∧ mm = mm ∧ ss = ss ∧ ff = ff ∧ uu = uu ∧ True) ∧ ∀ (g : Nat), Nat.le g (List.length L) → splitB (decide ((↑g : Int) < (↑(List.length L) : Int))) (((0 : Int) ≤ (↑g : Int) ∧ (↑g : Int) < (↑(List.length (plnTo L g)) : Int)) ∧ g < List.length (plnTo L g) ∧ fits IntKind.i64 ((↑g : Int) + (1 : Int)) ∧ ∃ (g' : Nat), Nat.le g' (List.length L) ∧ List.length L - g' < List.length L - g ∧ (↑g : Int) + (1 : Int) = (↑g' : Int) ∧ (↑(List.length L) : Int) = (↑(List.length L) : Int) ∧ lenN R L = lenN R L ∧ R = R ∧ L = L ∧ List.set (plnTo L g) g (Prod.fst (List.getD (plnTo L g) g e0), Prod.fst (Prod.snd (List.getD (plnTo L g) g e0)), Prod.fst (Prod.snd (Prod.snd (List.getD (plnTo L g) g e0))), (0 : Int), Prod.snd (Prod.snd (Prod.snd (Prod.snd (List.getD (plnTo L g) g e0))))) = plnTo L g' ∧ startsN R L = startsN R L ∧ l = l ∧ F = F ∧ D = D ∧ hh = hh ∧ mm = mm ∧ ss = ss ∧ ff = ff ∧ uu = uu ∧ True) (List.length R ≤ (1000000000 : Nat) ∧ (∀ (r : Rl), r ∈ R → List.length (Prod.snd (Prod.snd r)) ≤ (1000000 : Nat) ∧ List.length (Prod.fst r) ≤ (1000000000 : Nat)) ∧ List.length (plnTo L g) ≤ (1000000000 : Nat) ∧ (∀ (x : Ed), x ∈ plnTo L g → fits IntKind.i64 (Prod.fst (Prod.snd (Prod.snd x)))) ∧ splitB (chkEds R (plnTo L g) == (0 : Int)) (List.length R ≤ (1000000 : Nat) ∧ (∀ (r : Rl), r ∈ R → List.length (Prod.snd (Prod.snd r)) ≤ (1000000 : Nat)) ∧ List.length (plnTo L g) ≤ (1000000 : Nat) ∧ List.length R ≤ (1000000000 : Nat) ∧ (∀ (r : Rl), r ∈ R → List.length (Prod.snd (Prod.snd r)) ≤ (1000000 : Nat)) ∧ List.length (plnTo L g) ≤ (1000000000 : Nat) ∧ (∃ (g_1 : Nat), Nat.le g_1 (List.length (plnTo L g)) ∧ (0 : Int) = (↑g_1 : Int) ∧ (↑(List.length (plnTo L g)) : Int) = (↑(List.length (plnTo L g)) : Int) ∧ chkEds R (plnTo L g) = chkEds R (plnTo L g) ∧ lenN R L = lenN R L ∧ R = R ∧ L = L ∧ wantTo R (plnTo L g) g_1 = [] ∧ playN R (plnTo L g) = playN R (plnTo L g) ∧ plnTo L g = plnTo L g ∧ startsN R L = startsN R L ∧ l = l ∧ F = F ∧ D = D ∧ hh = hh ∧ mm = mm ∧ ss = ss ∧ ff = ff ∧ uu = uu ∧ True) ∧ ∀ (g_1 : Nat), Nat.le g_1 (List.length (plnTo L g)) → splitB (decide ((↑g_1 : Int) < (↑(List.length (plnTo L g)) : Int))) (((0 : Int) ≤ (↑g_1 : Int) ∧ (↑g_1 : Int) < (↑(List.length (plnTo L g)) : Int)) ∧ g_1 < List.length (plnTo L g) ∧ (∃ (g_2 : Nat), Nat.le g_2 (List.length R) ∧ (0 : Int) = (↑g_2 : Int) ∧ (↑(List.length R) : Int) = (↑(List.length R) : Int) ∧ R = R ∧ (↑g_1 : Int) = (↑g_1 : Int) ∧ (↑(List.length (plnTo L g)) : Int) = (↑(List.length (plnTo L g)) : Int) ∧ chkEds R (plnTo L g) = chkEds R (plnTo L g) ∧ lenN R L = lenN R L ∧ R = R ∧ L = L ∧ (wantTo R (plnTo L g) g_1 = wantTo R (plnTo L g) g_1 ++ if idxN (Prod.fst (List.getD (plnTo L g) g_1 e0)) R < g_2 then partN (rlOf R (Prod.fst (List.getD (plnTo L g) g_1 e0))) (Prod.fst (List.getD (plnTo L g) g_1 e0), Prod.fst (Prod.snd (List.getD (plnTo L g) g_1 e0)), Prod.fst (Prod.snd (Prod.snd (List.getD (plnTo L g) g_1 e0))), Prod.fst (Prod.snd (Prod.snd (Prod.snd (List.getD (plnTo L g) g_1 e0)))), Prod.snd (Prod.snd (Prod.snd (Prod.snd (List.getD (plnTo L g) g_1 e0))))) else []) ∧ Prod.fst (List.getD (plnTo L g) g_1 e0) = Prod.fst (List.getD (plnTo L g) g_1 e0) ∧ Prod.fst (Prod.snd (List.getD (plnTo L g) g_1 e0)) = Prod.fst (Prod.snd (List.getD (plnTo L g) g_1 e0)) ∧ Prod.fst (Prod.snd (Prod.snd (List.getD (plnTo L g) g_1 e0))) = Prod.fst (Prod.snd (Prod.snd (List.getD (plnTo L g) g_1 e0))) ∧ Prod.fst (Prod.snd (Prod.snd (Prod.snd (List.getD (plnTo L g) g_1 e0)))) = Prod.fst (Prod.snd (Prod.snd (Prod.snd (List.getD (plnTo L g) g_1 e0)))) ∧ Prod.snd (Prod.snd (Prod.snd (Prod.snd (List.getD (plnTo L g) g_1 e0)))) = Prod.snd (Prod.snd (Prod.snd (Prod.snd (List.getD (plnTo L g) g_1 e0)))) ∧ playN R (plnTo L g) = playN R (plnTo L g) ∧ plnTo L g = plnTo L g ∧ startsN R L = startsN R L ∧ l = l ∧ F = F ∧ D = D ∧ hh = hh ∧ mm = mm ∧ ss = ss ∧ ff = ff ∧ uu = uu ∧ True) ∧ ∀ (g_2 : Nat), Nat.le g_2 (List.length R) → splitB (decide ((↑g_2 : Int) < (↑(List.length R) : Int))) (((0 : Int) ≤ (↑g_2 : Int) ∧ (↑g_2 : Int) < (↑(List.length R) : Int)) ∧ splitB (Prod.fst (List.getD R g_2 r0) == Prod.fst (List.getD (plnTo L g) g_1 e0)) (fits IntKind.i64 (Prod.fst (Prod.snd (List.getD (plnTo L g) g_1 e0)) - Prod.fst (Prod.snd (List.getD R g_2 r0))) ∧ fits IntKind.i64 (Prod.fst (Prod.snd (Prod.snd (List.getD (plnTo L g) g_1 e0))) - Prod.fst (Prod.snd (List.getD R g_2 r0))) ∧ ((0 : Int) ≤ Prod.fst (Prod.snd (List.getD (plnTo L g) g_1 e0)) - Prod.fst (Prod.snd (List.getD R g_2 r0)) ∧ Prod.fst (Prod.snd (List.getD (plnTo L g) g_1 e0)) - Prod.fst (Prod.snd (List.getD R g_2 r0)) ≤ Prod.fst (Prod.snd (Prod.snd (List.getD (plnTo L g) g_1 e0))) - Prod.fst (Prod.snd (List.getD R g_2 r0)) ∧ Prod.fst (Prod.snd (Prod.snd (List.getD (plnTo L g) g_1 e0))) - Prod.fst (Prod.snd (List.getD R g_2 r0)) ≤ (↑(List.length (Prod.snd (Prod.snd (List.getD R g_2 r0)))) : Int)) ∧ room (List.length (wantTo R (plnTo L g) g_1 ++ if idxN (Prod.fst (List.getD (plnTo L g) g_1 e0)) R < g_2 then partN (rlOf R (Prod.fst (List.getD (plnTo L g) g_1 e0))) (Prod.fst (List.getD (plnTo L g) g_1 e0), Prod.fst (Prod.snd (List.getD (plnTo L g) g_1 e0)), Prod.fst (Prod.snd (Prod.snd (List.getD (plnTo L g) g_1 e0))), Prod.fst (Prod.snd (Prod.snd (Prod.snd (List.getD (plnTo L g) g_1 e0)))), Prod.snd (Prod.snd (Prod.snd (Prod.snd (List.getD (plnTo L g) g_1 e0))))) else []) + List.length (List.take (Int.toNat (Prod.fst (Prod.snd (Prod.snd (List.getD (plnTo L g) g_1 e0))) - Prod.fst (Prod.snd (List.getD R g_2 r0))) - Int.toNat (Prod.fst (Prod.snd (List.getD (plnTo L g) g_1 e0)) - Prod.fst (Prod.snd (List.getD R g_2 r0)))) (List.drop (Int.toNat (Prod.fst (Prod.snd (List.getD (plnTo L g) g_1 e0)) - Prod.fst (Prod.snd (List.getD R g_2 r0)))) (Prod.snd (Prod.snd (List.getD R g_2 r0)))))) (8 : Nat) ∧ fits IntKind.i64 ((↑g_2 : Int) + (1 : Int)) ∧ ∃ (g' : Nat), Nat.le g' (List.length R) ∧ List.length R - g' < List.length R - g_2 ∧ (↑g_2 : Int) + (1 : Int) = (↑g' : Int) ∧ (↑(List.length R) : Int) = (↑(List.length R) : Int) ∧ R = R ∧ (↑g_1 : Int) = (↑g_1 : Int) ∧ (↑(List.length (plnTo L g)) : Int) = (↑(List.length (plnTo L g)) : Int) ∧ chkEds R (plnTo L g) = chkEds R (plnTo L g) ∧ lenN R L = lenN R L ∧ R = R ∧ L = L ∧ ((wantTo R (plnTo L g) g_1 ++ if idxN (Prod.fst (List.getD (plnTo L g) g_1 e0)) R < g_2 then partN (rlOf R (Prod.fst (List.getD (plnTo L g) g_1 e0))) (Prod.fst (List.getD (plnTo L g) g_1 e0), Prod.fst (Prod.snd (List.getD (plnTo L g) g_1 e0)), Prod.fst (Prod.snd (Prod.snd (List.getD (plnTo L g) g_1 e0))), Prod.fst (Prod.snd (Prod.snd (Prod.snd (List.getD (plnTo L g) g_1 e0)))), Prod.snd (Prod.snd (Prod.snd (Prod.snd (List.getD (plnTo L g) g_1 e0))))) else []) ++ List.take (Int.toNat (Prod.fst (Prod.snd (Prod.snd (List.getD (plnTo L g) g_1 e0))) - Prod.fst (Prod.snd (List.getD R g_2 r0))) - Int.toNat (Prod.fst (Prod.snd (List.getD (plnTo L g) g_1 e0)) - Prod.fst (Prod.snd (List.getD R g_2 r0)))) (List.drop (Int.toNat (Prod.fst (Prod.snd (List.getD (plnTo L g) g_1 e0)) - Prod.fst (Prod.snd (List.getD R g_2 r0)))) (Prod.snd (Prod.snd (List.getD R g_2 r0)))) = wantTo R (plnTo L g) g_1 ++ if idxN (Prod.fst (List.getD (plnTo L g) g_1 e0)) R < g' then partN (rlOf R (Prod.fst (List.getD (plnTo L g) g_1 e0))) (Prod.fst (List.getD (plnTo L g) g_1 e0), Prod.fst (Prod.snd (List.getD (plnTo L g) g_1 e0)), Prod.fst (Prod.snd (Prod.snd (List.getD (plnTo L g) g_1 e0))), Prod.fst (Prod.snd (Prod.snd (Prod.snd (List.getD (plnTo L g) g_1 e0)))), Prod.snd (Prod.snd (Prod.snd (Prod.snd (List.getD (plnTo L g) g_1 e0))))) else []) ∧ Prod.fst (List.getD (plnTo L g) g_1 e0) = Prod.fst (List.getD (plnTo L g) g_1 e0) ∧ Prod.fst (Prod.snd (List.getD (plnTo L g) g_1 e0)) = Prod.fst (Prod.snd (List.getD (plnTo L g) g_1 e0)) ∧ Prod.fst (Prod.snd (Prod.snd (List.getD (plnTo L g) g_1 e0))) = Prod.fst (Prod.snd (Prod.snd (List.getD (plnTo L g) g_1 e0))) ∧ Prod.fst (Prod.snd (Prod.snd (Prod.snd (List.getD (plnTo L g) g_1 e0)))) = Prod.fst (Prod.snd (Prod.snd (Prod.snd (List.getD (plnTo L g) g_1 e0)))) ∧ Prod.snd (Prod.snd (Prod.snd (Prod.snd (List.getD (plnTo L g) g_1 e0)))) = Prod.snd (Prod.snd (Prod.snd (Prod.snd (List.getD (plnTo L g) g_1 e0)))) ∧ playN R (plnTo L g) = playN R (plnTo L g) ∧ plnTo L g = plnTo L g ∧ startsN R L = startsN R L ∧ l = l ∧ F = F ∧ D = D ∧ hh = hh ∧ mm = mm ∧ ss = ss ∧ ff = ff ∧ uu = uu ∧ True) (fits IntKind.i64 ((↑g_2 : Int) + (1 : Int)) ∧ ∃ (g' : Nat), Nat.le g' (List.length R) ∧ List.length R - g' < List.length R - g_2 ∧ (↑g_2 : Int) + (1 : Int) = (↑g' : Int) ∧ (↑(List.length R) : Int) = (↑(List.length R) : Int) ∧ R = R ∧ (↑g_1 : Int) = (↑g_1 : Int) ∧ (↑(List.length (plnTo L g)) : Int) = (↑(List.length (plnTo L g)) : Int) ∧ chkEds R (plnTo L g) = chkEds R (plnTo L g) ∧ lenN R L = lenN R L ∧ R = R ∧ L = L ∧ ((wantTo R (plnTo L g) g_1 ++ if idxN (Prod.fst (List.getD (plnTo L g) g_1 e0)) R < g_2 then partN (rlOf R (Prod.fst (List.getD (plnTo L g) g_1 e0))) (Prod.fst (List.getD (plnTo L g) g_1 e0), Prod.fst (Prod.snd (List.getD (plnTo L g) g_1 e0)), Prod.fst (Prod.snd (Prod.snd (List.getD (plnTo L g) g_1 e0))), Prod.fst (Prod.snd (Prod.snd (Prod.snd (List.getD (plnTo L g) g_1 e0)))), Prod.snd (Prod.snd (Prod.snd (Prod.snd (List.getD (plnTo L g) g_1 e0))))) else []) = wantTo R (plnTo L g) g_1 ++ if idxN (Prod.fst (List.getD (plnTo L g) g_1 e0)) R < g' then partN (rlOf R (Prod.fst (List.getD (plnTo L g) g_1 e0))) (Prod.fst (List.getD (plnTo L g) g_1 e0), Prod.fst (Prod.snd (List.getD (plnTo L g) g_1 e0)), Prod.fst (Prod.snd (Prod.snd (List.getD (plnTo L g) g_1 e0))), Prod.fst (Prod.snd (Prod.snd (Prod.snd (List.getD (plnTo L g) g_1 e0)))), Prod.snd (Prod.snd (Prod.snd (Prod.snd (List.getD (plnTo L g) g_1 e0))))) else []) ∧ Prod.fst (List.getD (plnTo L g) g_1 e0) = Prod.fst (List.getD (plnTo L g) g_1 e0) ∧ Prod.fst (Prod.snd (List.getD (plnTo L g) g_1 e0)) = Prod.fst (Prod.snd (List.getD (plnTo L g) g_1 e0)) ∧ Prod.fst (Prod.snd (Prod.snd (List.getD (plnTo L g) g_1 e0))) = Prod.fst (Prod.snd (Prod.snd (List.getD (plnTo L g) g_1 e0))) ∧ Prod.fst (Prod.snd (Prod.snd (Prod.snd (List.getD (plnTo L g) g_1 e0)))) = Prod.fst (Prod.snd (Prod.snd (Prod.snd (List.getD (plnTo L g) g_1 e0)))) ∧ Prod.snd (Prod.snd (Prod.snd (Prod.snd (List.getD (plnTo L g) g_1 e0)))) = Prod.snd (Prod.snd (Prod.snd (Prod.snd (List.getD (plnTo L g) g_1 e0)))) ∧ playN R (plnTo L g) = playN R (plnTo L g) ∧ plnTo L g = plnTo L g ∧ startsN R L = startsN R L ∧ l = l ∧ F = F ∧ D = D ∧ hh = hh ∧ mm = mm ∧ ss = ss ∧ ff = ff ∧ uu = uu ∧ True)) (fits IntKind.i64 ((↑g_1 : Int) + (1 : Int)) ∧ ∃ (g' : Nat), Nat.le g' (List.length (plnTo L g)) ∧ List.length (plnTo L g) - g' < List.length (plnTo L g) - g_1 ∧ (↑g_1 : Int) + (1 : Int) = (↑g' : Int) ∧ (↑(List.length (plnTo L g)) : Int) = (↑(List.length (plnTo L g)) : Int) ∧ chkEds R (plnTo L g) = chkEds R (plnTo L g) ∧ lenN R L = lenN R L ∧ R = R ∧ L = L ∧ (wantTo R (plnTo L g) g_1 ++ if idxN (Prod.fst (List.getD (plnTo L g) g_1 e0)) R < g_2 then partN (rlOf R (Prod.fst (List.getD (plnTo L g) g_1 e0))) (Prod.fst (List.getD (plnTo L g) g_1 e0), Prod.fst (Prod.snd (List.getD (plnTo L g) g_1 e0)), Prod.fst (Prod.snd (Prod.snd (List.getD (plnTo L g) g_1 e0))), Prod.fst (Prod.snd (Prod.snd (Prod.snd (List.getD (plnTo L g) g_1 e0)))), Prod.snd (Prod.snd (Prod.snd (Prod.snd (List.getD (plnTo L g) g_1 e0))))) else []) = wantTo R (plnTo L g) g' ∧ playN R (plnTo L g) = playN R (plnTo L g) ∧ plnTo L g = plnTo L g ∧ startsN R L = startsN R L ∧ l = l ∧ F = F ∧ D = D ∧ hh = hh ∧ mm = mm ∧ ss = ss ∧ ff = ff ∧ uu = uu ∧ True)) (((chkEds R (plnTo L g) != (0 : Int)) = false → List.length (playN R (plnTo L g)) ≤ (1000000000 : Nat)) ∧ splitB (bif chkEds R (plnTo L g) != (0 : Int) then true else !decide (playN R (plnTo L g) = wantTo R (plnTo L g) g_1)) (false = true ∧ True) (List.length R ≤ (1000000 : Nat) ∧ (∀ (r : Rl), r ∈ R → List.length (Prod.snd (Prod.snd r)) ≤ (1000000 : Nat)) ∧ List.length L ≤ (1000000 : Nat) ∧ List.length R ≤ (1000000000 : Nat) ∧ (∀ (r : Rl), r ∈ R → List.length (Prod.snd (Prod.snd r)) ≤ (1000000 : Nat)) ∧ List.length L ≤ (1000000000 : Nat) ∧ StOk ((F, D), (hh, mm, ss, ff), uu) ∧ RateOk F D ∧ RateOk F D ∧ LabOk F D hh mm ss ff ∧ splitB (bif bif bif bif chkEds R L != (0 : Int) then true else (0 : Int) != (0 : Int) then true else (0 : Int) != (0 : Int) then true else (↑(List.length (if chkEds R L = (0 : Int) then labsN ((F, D), (hh, mm, ss, ff), uu) (ls L) else [])) : Int) != (↑(List.length L) : Int) then true else decide (dayN F D < (1 : Int))) (false = true ∧ True) ((∃ (g_2 : Nat), Nat.le g_2 (List.length (if chkEds R L = (0 : Int) then labsN ((F, D), (hh, mm, ss, ff), uu) (ls L) else [])) ∧ (0 : Int) = (↑g_2 : Int) ∧ (↑(List.length (if chkEds R L = (0 : Int) then labsN ((F, D), (hh, mm, ss, ff), uu) (ls L) else [])) : Int) = (↑(List.length (if chkEds R L = (0 : Int) then labsN ((F, D), (hh, mm, ss, ff), uu) (ls L) else [])) : Int) ∧ frameN F D hh mm ss ff = frameN F D hh mm ss ff ∧ dayN F D = dayN F D ∧ R = R ∧ L = L ∧ ((if chkEds R L = (0 : Int) then labsN ((F, D), (hh, mm, ss, ff), uu) (ls L) else []) = if chkEds R L = (0 : Int) then labsN ((F, D), (hh, mm, ss, ff), uu) (ls L) else []) ∧ L = L ∧ wantTo R (plnTo L g) g_1 = wantTo R (plnTo L g) g_1 ∧ playN R (plnTo L g) = playN R (plnTo L g) ∧ plnTo L g = plnTo L g ∧ startsN R L = startsN R L ∧ l = l ∧ F = F ∧ D = D ∧ hh = hh ∧ mm = mm ∧ ss = ss ∧ ff = ff ∧ uu = uu ∧ True) ∧ ∀ (g_2 : Nat), Nat.le g_2 (List.length (if chkEds R L = (0 : Int) then labsN ((F, D), (hh, mm, ss, ff), uu) (ls L) else [])) → splitB (decide ((↑g_2 : Int) < (↑(List.length (if chkEds R L = (0 : Int) then labsN ((F, D), (hh, mm, ss, ff), uu) (ls L) else [])) : Int))) (((0 : Int) ≤ (↑g_2 : Int) ∧ (↑g_2 : Int) < (↑(List.length (if chkEds R L = (0 : Int) then labsN ((F, D), (hh, mm, ss, ff), uu) (ls L) else [])) : Int)) ∧ g_2 < List.length (if chkEds R L = (0 : Int) then labsN ((F, D), (hh, mm, ss, ff), uu) (ls L) else []) ∧ RateOk F D ∧ LabOk F D (Prod.fst (List.getD (if chkEds R L = (0 : Int) then labsN ((F, D), (hh, mm, ss, ff), uu) (ls L) else []) g_2 ((0 : Int), (0 : Int), (0 : Int), (0 : Int)))) (Prod.fst (Prod.snd (List.getD (if chkEds R L = (0 : Int) then labsN ((F, D), (hh, mm, ss, ff), uu) (ls L) else []) g_2 ((0 : Int), (0 : Int), (0 : Int), (0 : Int))))) (Prod.fst (Prod.snd (Prod.snd (List.getD (if chkEds R L = (0 : Int) then labsN ((F, D), (hh, mm, ss, ff), uu) (ls L) else []) g_2 ((0 : Int), (0 : Int), (0 : Int), (0 : Int)))))) (Prod.snd (Prod.snd (Prod.snd (List.getD (if chkEds R L = (0 : Int) then labsN ((F, D), (hh, mm, ss, ff), uu) (ls L) else []) g_2 ((0 : Int), (0 : Int), (0 : Int), (0 : Int)))))) ∧ (((0 : Int) != (0 : Int)) = false → (0 : Int) ≤ (↑g_2 : Int) ∧ (↑g_2 : Int) < (↑(List.length (startsN R L)) : Int)) ∧ (((0 : Int) != (0 : Int)) = false → g_2 < List.length (startsN R L)) ∧ (((0 : Int) != (0 : Int)) = false → fits IntKind.i64 (frameN F D hh mm ss ff + List.getD (startsN R L) g_2 (0 : Int))) ∧ (((0 : Int) != (0 : Int)) = false → (0 : Int) ≤ frameN F D hh mm ss ff + List.getD (startsN R L) g_2 (0 : Int) ∧ (0 : Int) < dayN F D) ∧ splitB (bif (0 : Int) != (0 : Int) then true else frameN F D (Prod.fst (List.getD (if chkEds R L = (0 : Int) then labsN ((F, D), (hh, mm, ss, ff), uu) (ls L) else []) g_2 ((0 : Int), (0 : Int), (0 : Int), (0 : Int)))) (Prod.fst (Prod.snd (List.getD (if chkEds R L = (0 : Int) then labsN ((F, D), (hh, mm, ss, ff), uu) (ls L) else []) g_2 ((0 : Int), (0 : Int), (0 : Int), (0 : Int))))) (Prod.fst (Prod.snd (Prod.snd (List.getD (if chkEds R L = (0 : Int) then labsN ((F, D), (hh, mm, ss, ff), uu) (ls L) else []) g_2 ((0 : Int), (0 : Int), (0 : Int), (0 : Int)))))) (Prod.snd (Prod.snd (Prod.snd (List.getD (if chkEds R L = (0 : Int) then labsN ((F, D), (hh, mm, ss, ff), uu) (ls L) else []) g_2 ((0 : Int), (0 : Int), (0 : Int), (0 : Int)))))) != (frameN F D hh mm ss ff + List.getD (startsN R L) g_2 (0 : Int)) % dayN F D) (false = true ∧ True) (fits IntKind.i64 ((↑g_2 : Int) + (1 : Int)) ∧ ∃ (g' : Nat), Nat.le g' (List.length (if chkEds R L = (0 : Int) then labsN ((F, D), (hh, mm, ss, ff), uu) (ls L) else [])) ∧ List.length (if chkEds R L = (0 : Int) then labsN ((F, D), (hh, mm, ss, ff), uu) (ls L) else []) - g' < List.length (if chkEds R L = (0 : Int) then labsN ((F, D), (hh, mm, ss, ff), uu) (ls L) else []) - g_2 ∧ (↑g_2 : Int) + (1 : Int) = (↑g' : Int) ∧ (↑(List.length (if chkEds R L = (0 : Int) then labsN ((F, D), (hh, mm, ss, ff), uu) (ls L) else [])) : Int) = (↑(List.length (if chkEds R L = (0 : Int) then labsN ((F, D), (hh, mm, ss, ff), uu) (ls L) else [])) : Int) ∧ frameN F D hh mm ss ff = frameN F D hh mm ss ff ∧ dayN F D = dayN F D ∧ R = R ∧ L = L ∧ ((if chkEds R L = (0 : Int) then labsN ((F, D), (hh, mm, ss, ff), uu) (ls L) else []) = if chkEds R L = (0 : Int) then labsN ((F, D), (hh, mm, ss, ff), uu) (ls L) else []) ∧ L = L ∧ wantTo R (plnTo L g) g_1 = wantTo R (plnTo L g) g_1 ∧ playN R (plnTo L g) = playN R (plnTo L g) ∧ plnTo L g = plnTo L g ∧ startsN R L = startsN R L ∧ l = l ∧ F = F ∧ D = D ∧ hh = hh ∧ mm = mm ∧ ss = ss ∧ ff = ff ∧ uu = uu ∧ True)) (true = true ∧ True))))) (List.length R ≤ (1000000 : Nat) ∧ (∀ (r : Rl), r ∈ R → List.length (Prod.snd (Prod.snd r)) ≤ (1000000 : Nat)) ∧ List.length L ≤ (1000000 : Nat) ∧ List.length R ≤ (1000000000 : Nat) ∧ (∀ (r : Rl), r ∈ R → List.length (Prod.snd (Prod.snd r)) ≤ (1000000 : Nat)) ∧ List.length L ≤ (1000000000 : Nat) ∧ StOk ((F, D), (hh, mm, ss, ff), uu) ∧ RateOk F D ∧ RateOk F D ∧ LabOk F D hh mm ss ff ∧ splitB (bif bif bif bif chkEds R L != (0 : Int) then true else (0 : Int) != (0 : Int) then true else (0 : Int) != (0 : Int) then true else (↑(List.length (if chkEds R L = (0 : Int) then labsN ((F, D), (hh, mm, ss, ff), uu) (ls L) else [])) : Int) != (↑(List.length L) : Int) then true else decide (dayN F D < (1 : Int))) (false = true ∧ True) ((∃ (g_1 : Nat), Nat.le g_1 (List.length (if chkEds R L = (0 : Int) then labsN ((F, D), (hh, mm, ss, ff), uu) (ls L) else [])) ∧ (0 : Int) = (↑g_1 : Int) ∧ (↑(List.length (if chkEds R L = (0 : Int) then labsN ((F, D), (hh, mm, ss, ff), uu) (ls L) else [])) : Int) = (↑(List.length (if chkEds R L = (0 : Int) then labsN ((F, D), (hh, mm, ss, ff), uu) (ls L) else [])) : Int) ∧ frameN F D hh mm ss ff = frameN F D hh mm ss ff ∧ dayN F D = dayN F D ∧ R = R ∧ L = L ∧ ((if chkEds R L = (0 : Int) then labsN ((F, D), (hh, mm, ss, ff), uu) (ls L) else []) = if chkEds R L = (0 : Int) then labsN ((F, D), (hh, mm, ss, ff), uu) (ls L) else []) ∧ L = L ∧ plnTo L g = plnTo L g ∧ startsN R L = startsN R L ∧ l = l ∧ F = F ∧ D = D ∧ hh = hh ∧ mm = mm ∧ ss = ss ∧ ff = ff ∧ uu = uu ∧ True) ∧ ∀ (g_1 : Nat), Nat.le g_1 (List.length (if chkEds R L = (0 : Int) then labsN ((F, D), (hh, mm, ss, ff), uu) (ls L) else [])) → splitB (decide ((↑g_1 : Int) < (↑(List.length (if chkEds R L = (0 : Int) then labsN ((F, D), (hh, mm, ss, ff), uu) (ls L) else [])) : Int))) (((0 : Int) ≤ (↑g_1 : Int) ∧ (↑g_1 : Int) < (↑(List.length (if chkEds R L = (0 : Int) then labsN ((F, D), (hh, mm, ss, ff), uu) (ls L) else [])) : Int)) ∧ g_1 < List.length (if chkEds R L = (0 : Int) then labsN ((F, D), (hh, mm, ss, ff), uu) (ls L) else []) ∧ RateOk F D ∧ LabOk F D (Prod.fst (List.getD (if chkEds R L = (0 : Int) then labsN ((F, D), (hh, mm, ss, ff), uu) (ls L) else []) g_1 ((0 : Int), (0 : Int), (0 : Int), (0 : Int)))) (Prod.fst (Prod.snd (List.getD (if chkEds R L = (0 : Int) then labsN ((F, D), (hh, mm, ss, ff), uu) (ls L) else []) g_1 ((0 : Int), (0 : Int), (0 : Int), (0 : Int))))) (Prod.fst (Prod.snd (Prod.snd (List.getD (if chkEds R L = (0 : Int) then labsN ((F, D), (hh, mm, ss, ff), uu) (ls L) else []) g_1 ((0 : Int), (0 : Int), (0 : Int), (0 : Int)))))) (Prod.snd (Prod.snd (Prod.snd (List.getD (if chkEds R L = (0 : Int) then labsN ((F, D), (hh, mm, ss, ff), uu) (ls L) else []) g_1 ((0 : Int), (0 : Int), (0 : Int), (0 : Int)))))) ∧ (((0 : Int) != (0 : Int)) = false → (0 : Int) ≤ (↑g_1 : Int) ∧ (↑g_1 : Int) < (↑(List.length (startsN R L)) : Int)) ∧ (((0 : Int) != (0 : Int)) = false → g_1 < List.length (startsN R L)) ∧ (((0 : Int) != (0 : Int)) = false → fits IntKind.i64 (frameN F D hh mm ss ff + List.getD (startsN R L) g_1 (0 : Int))) ∧ (((0 : Int) != (0 : Int)) = false → (0 : Int) ≤ frameN F D hh mm ss ff + List.getD (startsN R L) g_1 (0 : Int) ∧ (0 : Int) < dayN F D) ∧ splitB (bif (0 : Int) != (0 : Int) then true else frameN F D (Prod.fst (List.getD (if chkEds R L = (0 : Int) then labsN ((F, D), (hh, mm, ss, ff), uu) (ls L) else []) g_1 ((0 : Int), (0 : Int), (0 : Int), (0 : Int)))) (Prod.fst (Prod.snd (List.getD (if chkEds R L = (0 : Int) then labsN ((F, D), (hh, mm, ss, ff), uu) (ls L) else []) g_1 ((0 : Int), (0 : Int), (0 : Int), (0 : Int))))) (Prod.fst (Prod.snd (Prod.snd (List.getD (if chkEds R L = (0 : Int) then labsN ((F, D), (hh, mm, ss, ff), uu) (ls L) else []) g_1 ((0 : Int), (0 : Int), (0 : Int), (0 : Int)))))) (Prod.snd (Prod.snd (Prod.snd (List.getD (if chkEds R L = (0 : Int) then labsN ((F, D), (hh, mm, ss, ff), uu) (ls L) else []) g_1 ((0 : Int), (0 : Int), (0 : Int), (0 : Int)))))) != (frameN F D hh mm ss ff + List.getD (startsN R L) g_1 (0 : Int)) % dayN F D) (false = true ∧ True) (fits IntKind.i64 ((↑g_1 : Int) + (1 : Int)) ∧ ∃ (g' : Nat), Nat.le g' (List.length (if chkEds R L = (0 : Int) then labsN ((F, D), (hh, mm, ss, ff), uu) (ls L) else [])) ∧ List.length (if chkEds R L = (0 : Int) then labsN ((F, D), (hh, mm, ss, ff), uu) (ls L) else []) - g' < List.length (if chkEds R L = (0 : Int) then labsN ((F, D), (hh, mm, ss, ff), uu) (ls L) else []) - g_1 ∧ (↑g_1 : Int) + (1 : Int) = (↑g' : Int) ∧ (↑(List.length (if chkEds R L = (0 : Int) then labsN ((F, D), (hh, mm, ss, ff), uu) (ls L) else [])) : Int) = (↑(List.length (if chkEds R L = (0 : Int) then labsN ((F, D), (hh, mm, ss, ff), uu) (ls L) else [])) : Int) ∧ frameN F D hh mm ss ff = frameN F D hh mm ss ff ∧ dayN F D = dayN F D ∧ R = R ∧ L = L ∧ ((if chkEds R L = (0 : Int) then labsN ((F, D), (hh, mm, ss, ff), uu) (ls L) else []) = if chkEds R L = (0 : Int) then labsN ((F, D), (hh, mm, ss, ff), uu) (ls L) else []) ∧ L = L ∧ plnTo L g = plnTo L g ∧ startsN R L = startsN R L ∧ l = l ∧ F = F ∧ D = D ∧ hh = hh ∧ mm = mm ∧ ss = ss ∧ ff = ff ∧ uu = uu ∧ True)) (true = true ∧ True))))))))) := by
  kernel_rfl
end Go.Sx

/- Plain laws of short lists, of lists without fades, and of cadences undone. -/
namespace Go.Sx
open U

/-! ### Short lists. -/
theorem begN_short {R : List Rl} {L : List Ed} (h : ListOk R L) {c : Nat} (hs : ∀ r ∈ R, r.2.2.length ≤ c) : ∀ n : Nat, n ≤ L.length → begN L n ≤ (c : Int) * n
  | 0, _ => by simp [begN]
  | n + 1, hn => by
    have ih := begN_short h hs n (by omega)
    have hE := chkEd_ok (h.ed n (by omega))
    have h1 := hE.lo
    have h2 := hE.hi
    have h3 := hs _ (getD_mem (d := r0) hE.idx)
    have h4 : (rlOf R (L.getD n e0).1).2.2.length ≤ c := h3
    unfold endR at h2
    simp only [begN]
    have e : (c : Int) * ((n + 1 : Nat) : Int) = (c : Int) * n + c := by
      rw [Int.natCast_add, Int.mul_add]; simp
    omega

/-! ### Cadences undone. -/
section
variable {l : List Int} (h : chkCad l = 0)
include h
theorem fld_mono (m : Nat) : ∀ n, m ≤ n → (fldTo l m).length + (n - m) ≤ (fldTo l n).length
  | 0, hm => by
    have : m = 0 := by omega
    subst this; simp
  | n + 1, hm => by
    by_cases e : m = n + 1
    · subst e; simp
    · have ih := fld_mono m n (by omega)
      have := fld_cnt h n
      simp only [fldTo, List.length_append, List.length_replicate]
      omega
omit h in
theorem und_spec {n : Nat} (hn : n ≤ 256) : undN l (pullN l n) ≤ n ∧ pullN l (undN l (pullN l n)) = pullN l n := by
  cases hf : (List.range 257).find? (fun m => decide (pullN l m = pullN l n)) with
  | none =>
    rw [List.find?_eq_none] at hf
    exact absurd (decide_eq_true rfl) (hf n (List.mem_range.2 (by omega)))
  | some i =>
    have e : undN l (pullN l n) = i := by
      unfold undN
      rw [hf]; rfl
    rw [List.find?_range_eq_some] at hf
    rw [e]
    refine ⟨?_, of_decide_eq_true hf.1⟩
    apply Classical.byContradiction
    intro hc
    have := hf.2.2 n (by omega)
    simp at this
theorem und_near {n : Nat} (hn : n ≤ 256) : n ≤ undN l (pullN l n) + 1 := by
  obtain ⟨h1, h2⟩ := und_spec (l := l) hn
  have h3 := congrArg List.length h2
  unfold pullN at h3
  rw [prs_len, prs_len] at h3
  have := fld_mono h _ n h1
  unfold pullN at *
  omega
theorem pull_len (n : Nat) : (pullN l n).length ≤ 2 * n := by
  unfold pullN
  rw [prs_len]
  have := fld_len h n
  omega
/-- A pair and the frame before it. -/
theorem pull_at (n g : Nat) (hg : g < (pullN l n).length) :
    (0 ≤ lastP (pullN l n) g ∧ lastP (pullN l n) g ≤ ((pullN l n).getD g [0, 0]).getD 0 0 ∧ ((pullN l n).getD g [0, 0]).getD 0 0 ≤ lastP (pullN l n) g + 1) ∧ (((pullN l n).getD g [0, 0]).getD 0 0 ≤ ((pullN l n).getD g [0, 0]).getD 1 0 ∧ ((pullN l n).getD g [0, 0]).getD 1 0 ≤ ((pullN l n).getD g [0, 0]).getD 0 0 + 1) ∧ ((pullN l n).getD g [0, 0]).getD 1 0 < n := by
  unfold pullN at hg
  rw [prs_len] at hg
  have e := prs_get (fldTo l n) _ g hg
  have f0 := fld_steps h n (2 * g) (by omega)
  have f1 := fld_steps h n (2 * g + 1) (by omega)
  have e0 : ((pullN l n).getD g [0, 0]).getD 0 0 = (fldTo l n).getD (2 * g) 0 := by unfold pullN; rw [e]; rfl
  have e1 : ((pullN l n).getD g [0, 0]).getD 1 0 = (fldTo l n).getD (2 * g + 1) 0 := by unfold pullN; rw [e]; rfl
  rw [e0, e1]
  have f1' := f1.2.2 (by omega)
  have e2 : 2 * g + 1 - 1 = 2 * g := by omega
  rw [e2] at f1'
  cases g with
  | zero =>
    have e3 : lastP (pullN l n) 0 = 0 := rfl
    have f0' := f0.2.1 rfl
    rw [e3]
    omega
  | succ k =>
    have e4 := prs_get (fldTo l n) _ k (Nat.lt_of_succ_lt hg)
    have e3 : lastP (pullN l n) (k + 1) = (fldTo l n).getD (2 * k + 1) 0 := by
      show ((pullN l n).getD k [0, 0]).getD 1 0 = _
      unfold pullN; rw [e4]; rfl
    have f0' := f0.2.2 (by omega)
    have e5 : 2 * (k + 1) - 1 = 2 * k + 1 := by omega
    rw [e5] at f0'
    have f2 := fld_steps h n (2 * k + 1) (by omega)
    rw [e3]
    omega
end
theorem pull_two {l : List Int} (n : Nat) : ∀ x ∈ pullN l n, x.length = 2 := fun x hx => prs_two _ _ x hx

/-! ### Lists without fades. -/
theorem setD_get {α : Type} (l : List α) (n j : Nat) (y d : α) : (l.set n y).getD j d = if n = j ∧ n < l.length then y else l.getD j d := by
  rw [List.getD_eq_getElem?_getD, List.getD_eq_getElem?_getD, List.getElem?_set]
  by_cases e : n = j
  · subst e
    by_cases h : n < l.length
    · simp [h]
    · simp [h]
  · simp [e]
theorem cut_get {α : Type} (l : List α) (a c i : Nat) (d : α) (h2 : a + i < l.length) (h3 : i < ((l.drop a).take c).length) : ((l.drop a).take c)[i] = l.getD (a + i) d := by
  rw [List.getElem_take, List.getElem_drop, getD_of h2]
theorem pln_len (L : List Ed) : ∀ n, (plnTo L n).length = L.length
  | 0 => rfl
  | n + 1 => by simp [plnTo, pln_len L n]
theorem pln_get (L : List Ed) (d : Ed) : ∀ n j, j < L.length → (plnTo L n).getD j d = if j < n then ((L.getD j d).1, (L.getD j d).2.1, (L.getD j d).2.2.1, 0, (L.getD j d).2.2.2.2) else L.getD j d
  | 0, j, _ => by simp [plnTo]
  | n + 1, j, hj => by
    have ih := pln_get L d n j hj
    have hl := pln_len L n
    simp only [plnTo]
    rw [setD_get]
    by_cases e : n = j
    · subst e
      have h1 := ih
      rw [if_neg (by omega)] at h1
      have h2 : (plnTo L n).getD n e0 = L.getD n d := by
        rw [← h1, getD_of (by omega), getD_of (by omega)]
      rw [if_pos ⟨rfl, by omega⟩, if_pos (by omega), h2]
    · rw [if_neg (by omega), ih]
      by_cases e3 : j < n
      · rw [if_pos e3, if_pos (by omega)]
      · rw [if_neg e3, if_neg (by omega)]
theorem pln_mem {L : List Ed} {n : Nat} {x : Ed} (h : x ∈ plnTo L n) : ∃ y ∈ L, x.1 = y.1 ∧ x.2.1 = y.2.1 ∧ x.2.2.1 = y.2.2.1 := by
  obtain ⟨j, hj, rfl⟩ := mem_getD e0 h
  rw [pln_len] at hj
  refine ⟨L.getD j e0, getD_mem hj, ?_⟩
  rw [pln_get L e0 n j hj]
  split <;> exact ⟨rfl, rfl, rfl⟩

theorem mix_1 {R : List Rl} (hr : chkRs R = 0) {x : Tk} (h : TkOk R x) (h1 : x.2.2 = (1, 1)) : mixN (mapR R R.length) [x] = (rlOf R x.1).2.2.getD (x.2.1 - (rlOf R x.1).2.1).toNat 0 := by
  have hc := (take_check hr h).2
  unfold mixN
  have : mixTo (mapR R R.length) [x] [x].length = ((rlOf R x.1).2.2.getD (x.2.1 - (rlOf R x.1).2.1).toNat 0, 1) := by
    show mixTo (mapR R R.length) [x] 1 = _
    rw [mixTo_succ (rs_nodup hr)]
    have e : List.getD [x] 0 tk0 = x := rfl
    rw [e, h1]
    simp [mixTo]
  rw [this]
  dsimp only
  omega
theorem idx_reel {R : List Rl} (hd : NoDup R) {j : Nat} (hj : j < R.length) : idxN (R.getD j r0).1 R = j := by
  have h1 := idxN_at (nm := (R.getD j r0).1) (R := R) (d := r0) hj rfl
  apply Classical.byContradiction
  intro hc
  have := idxN_name (R := R) (nm := (R.getD j r0).1) (by omega)
  exact hd _ j (by omega) hj this

/-- What is played at a frame of an edit without a fade. -/
theorem play_at {R : List Rl} {L : List Ed} (h : ListOk R L) {k : Nat} (hk : k < L.length) (hf : (L.getD k e0).2.2.2.1 = 0) {t : Int} (h1 : begN L k ≤ t) (h2 : t < begN L (k + 1)) :
    mixN (mapR R R.length) (takesN (ls L) t) = (rlOf R (L.getD k e0).1).2.2.getD ((L.getD k e0).2.1 + (t - begN L k) - (rlOf R (L.getD k e0).1).2.1).toNat 0 := by
  have hb := begN_mono h.eds (show k + 1 ≤ L.length by omega) (Nat.le_refl _)
  have h0 := begN_mono h.eds (show 0 ≤ k by omega) (by omega)
  have h0' : begN L 0 = 0 := rfl
  have ht : t < lenL L := by unfold lenL; omega
  obtain ⟨k', hk', e, b1, b2⟩ := seen_at h (show 0 ≤ t by omega) ht
  have ek : k' = k := by
    apply Classical.byContradiction
    intro hc
    by_cases hl : k' < k
    · have := begN_mono h.eds (show k' + 1 ≤ k by omega) (by omega)
      omega
    · have := begN_mono h.eds (show k + 1 ≤ k' by omega) (by omega)
      omega
  subst ek
  have et : takesN (ls L) t = [((L.getD k' e0).1, (L.getD k' e0).2.1 + (t - begN L k'), 1, 1)] := by
    unfold takesN
    rw [e, ls_get L hk']
    unfold takesE
    dsimp only
    rw [hf, if_pos (by omega)]
  have hok := (takes_ok h (show 0 ≤ t by omega) ht).2
  rw [et] at hok ⊢
  exact mix_1 h.rs (hok _ List.mem_cons_self) rfl

theorem play_to {R : List Rl} {L : List Ed} (h : ListOk R L) (hf : ∀ k, k < L.length → (L.getD k e0).2.2.2.1 = 0) : ∀ n, n ≤ L.length →
    (List.range (begN L n).toNat).map (fun t : Nat => mixN (mapR R R.length) (takesN (ls L) t)) = wantTo R L n
  | 0, _ => rfl
  | n + 1, hn => by
    have ih := play_to h hf n (by omega)
    have h0 := begN_mono h.eds (show 0 ≤ n by omega) (by omega)
    have h0' : begN L 0 = 0 := rfl
    have hlt := begN_lt h.eds (show n < L.length by omega)
    have hE := chkEd_ok (h.ed n (by omega))
    have e1 := hE.lo
    have e2 := hE.hi
    unfold endR at e2
    have eb : begN L (n + 1) = begN L n + ((L.getD n e0).2.2.1 - (L.getD n e0).2.1) := rfl
    have ebn : (begN L (n + 1)).toNat = (begN L n).toNat + ((L.getD n e0).2.2.1 - (L.getD n e0).2.1).toNat := by omega
    simp only [wantTo]
    rw [ebn, List.range_add, List.map_append, ih, List.map_map]
    congr 1
    have hlen : (partN (rlOf R (L.getD n e0).1) (L.getD n e0)).length = ((L.getD n e0).2.2.1 - (L.getD n e0).2.1).toNat := by
      unfold partN
      rw [List.length_take, List.length_drop]
      omega
    apply List.ext_getElem
    · rw [hlen]; simp
    · intro i h3 h4
      have hi : i < ((L.getD n e0).2.2.1 - (L.getD n e0).2.1).toNat := by simpa using h3
      simp only [List.getElem_map, List.getElem_range, Function.comp_apply]
      rw [play_at h (show n < L.length by omega) (hf n (by omega)) (by omega) (by omega)]
      have e5 : ((L.getD n e0).2.1 + ((((begN L n).toNat + i : Nat) : Int) - begN L n) - (rlOf R (L.getD n e0).1).2.1).toNat = ((L.getD n e0).2.1 - (rlOf R (L.getD n e0).1).2.1).toNat + i := by omega
      rw [e5]
      exact (cut_get _ _ _ _ 0 (by omega) h4).symm
theorem play_plain {R : List Rl} {L : List Ed} (h : chkEds R (plnTo L L.length) = 0) : playN R (plnTo L L.length) = wantTo R (plnTo L L.length) L.length := by
  have hk := chkEds_zero.1 h
  unfold playN
  rw [if_pos h]
  have := play_to hk (fun k hk' => by
    rw [pln_len] at hk'
    rw [pln_get L e0 _ k hk', if_pos hk']) (plnTo L L.length).length (Nat.le_refl _)
  rw [pln_len] at this
  have e : begN (plnTo L L.length) L.length = lenL (plnTo L L.length) := by unfold lenL; rw [pln_len]
  rw [e] at this
  exact this
theorem want_len {R : List Rl} (hs : ∀ r ∈ R, r.2.2.length ≤ 20) (L : List Ed) : ∀ n, (wantTo R L n).length ≤ 20 * n
  | 0 => Nat.le_refl _
  | n + 1 => by
    have ih := want_len hs L n
    have h2 : (rlOf R (L.getD n e0).1).2.2.length ≤ 20 := by
      by_cases h : idxN (L.getD n e0).1 R < R.length
      · exact hs _ (getD_mem h)
      · unfold rlOf
        rw [List.getD_eq_getElem?_getD, List.getElem?_eq_none (by omega)]
        exact Nat.zero_le _
    simp only [wantTo, List.length_append]
    unfold partN
    rw [List.length_take, List.length_drop]
    omega
end Go.Sx

/- Contracts. -/
namespace Go.Sx
open U
theorem fn29 (R : List Rl) (hl : R.length ≤ 1000000) (hR : ∀ r ∈ R, r.2.2.length ≤ 1000000) : Fn P1 gl1 29 [.one (.sl rlT R)] (.val (.one (.sl rlT R))) false := by
  refine fn_of false [] [] h29 0 Proofs.Tryd.f29 trivial trivial (by kernel_rfl) rfl (by kernel_rfl) rfl rfl rfl ?_
  rw [vc29]
  try simp only [splitB_iff, -eq_self]
  refine ⟨⟨0, Nat.zero_le _, by trivial, by trivial, by trivial, by simp⟩, fun g hg => ⟨fun hlt => ?_, fun hge => ?_⟩⟩
  · have hlt' : g < R.length := by simpa using hlt
    have hx := hR _ (getD_mem (d := r0) hlt')
    refine ⟨by omega, by simp only [room]; omega, by simp only [room, List.length_take]; omega, by simp only [fits]; omega, g + 1, hlt', by omega, by simp, by trivial, by trivial, ?_, trivial⟩
    rw [List.take_succ_eq_append_getElem hlt', getD_of hlt']
  · have hge' : ¬ g < R.length := by simpa using hge
    exact ⟨List.take_of_length_le (by omega), trivial⟩
theorem so29_ : SpecOk P1 gl1 29 sp29 := by
  intro vs ps r h hp
  simp only [sp29] at h
  split at h
  · cases h; exact fn29 _ (hp _ (.head _)) (hp _ (.tail _ (.head _)))
  · cases h
theorem so29 : Sp1 29 sp29 := ⟨so29_, Proofs.Tryd.f29, _, by kernel_rfl, rfl, by kernel_rfl⟩
theorem fn30 (L : List Ed) (hl : L.length ≤ 1000000) : Fn P1 gl1 30 [.one (.sl edT L)] (.val (.one (.frs edT L))) true := by
  refine Fn.flat ?_ rfl
  refine fn_of false [] [] h30 0 Proofs.Tryd.f30 trivial trivial (by kernel_rfl) rfl (by kernel_rfl) rfl rfl rfl ?_
  rw [vc30]
  try simp only [splitB_iff, -eq_self]
  refine ⟨⟨0, Nat.zero_le _, by trivial, by trivial, by trivial, by simp⟩, fun g hg => ⟨fun hlt => ?_, fun hge => ?_⟩⟩
  · have hlt' : g < L.length := by simpa using hlt
    refine ⟨by omega, by simp only [room, List.length_take]; omega, by simp only [fits]; omega, g + 1, hlt', by omega, by simp, by trivial, by trivial, ?_, trivial⟩
    rw [List.take_succ_eq_append_getElem hlt', getD_of hlt']
  · have hge' : ¬ g < L.length := by simpa using hge
    exact ⟨List.take_of_length_le (by omega), trivial⟩
theorem so30_ : SpecOk P1 gl1 30 sp30 := by
  intro vs ps r h hp
  simp only [sp30] at h
  split at h
  · cases h; exact fn30 _ (hp _ (.head _))
  · cases h
theorem so30 : Sp1 30 sp30 := ⟨so30_, Proofs.Tryd.f30, _, by kernel_rfl, rfl, by kernel_rfl⟩
theorem fn27   : Fn P1 gl1 27 [] (.val (bV true)) true := by
  refine Fn.flat ?_ rfl
  refine fn_of false [(33, sp33), (31, sp31), (34, sp34), (17, sp17), (87, sp87)] [] h0 0 Proofs.Tryd.f27 ⟨so33, so31, so34, so17, so87, trivial⟩ trivial (by kernel_rfl) rfl (by kernel_rfl) rfl rfl rfl ?_
  rw [vc27 ()]
  try simp only [-eq_self]
  have e1 : chkEds [([97], 10, [1, 2]), ([98], 20, [30, 40])] [([97], 10, 12, 0, 0), ([98], 20, 22, 0, 0)] = 0 := by decide +kernel
  have e2 : convE [([97], 10, [1, 2]), ([98], 20, [30, 40])] [([97], 10, 12, 0, 0), ([98], 20, 22, 0, 0)] [2, 3] = 0 := by decide +kernel
  have e3 : playN [([97], 10, [1, 2]), ([98], 20, [30, 40])] [([97], 10, 12, 0, 0), ([98], 20, 22, 0, 0)] = [1, 2, 30, 40] := by decide +kernel
  have e4 : convL [([97], 10, [1, 2]), ([98], 20, [30, 40])] [([97], 10, 12, 0, 0), ([98], 20, 22, 0, 0)] [2, 3] = [[0, 0], [1, 1], [1, 2], [2, 3], [3, 3]] := by decide +kernel
  have e5 : labsN ((25, false), (0, 0, 0, 24), 0) (ls [([97], 10, 12, 0, 0), ([98], 20, 22, 0, 0)]) = [(0, 0, 0, 24), (0, 0, 1, 1)] := by decide +kernel
  have e6 : StOk ((25, false), (0, 0, 0, 24), 0) := chkStZ.1 (by decide +kernel)
  have hr : ∀ r ∈ ([([97], 10, [1, 2]), ([98], 20, [30, 40])] : List Rl), r.2.2.length ≤ 1000000 := by decide
  have hp : ∀ x ∈ ([[0, 0], [1, 1], [1, 2], [2, 3], [3, 3]] : List (List Int)), x.length = 2 := by decide
  simp only [e1, e2, e3, e4, e5, if_true]
  exact ⟨by decide, hr, by decide, by decide, hr, by decide, by decide, hr, by decide, e6, fun _ => by decide, fun _ => by decide, fun _ => hp, fun _ => hp, fun _ => ⟨by decide, by decide⟩, fun _ => by decide, by decide, trivial⟩
theorem so27_ : SpecOk P1 gl1 27 sp27 := by
  intro vs ps r h _
  simp only [sp27] at h
  split at h
  · cases h; exact fn27  
  · cases h
theorem so27 : Sp1 27 sp27 := ⟨so27_, Proofs.Tryd.f27, _, by kernel_rfl, rfl, by kernel_rfl⟩
theorem fn35 (F : Int) (D : Bool) (h m s f u : Int)  : Fn P1 gl1 35 [stV F D h m s f u] (.val (stV F D h m s f u)) true := by
  refine Fn.flat ?_ rfl
  refine fn_of false [] [] h0 0 Proofs.Tryd.f35 trivial trivial (by kernel_rfl) rfl (by kernel_rfl) rfl rfl rfl ?_
  rw [vc35]
  try simp only [splitB_iff, -eq_self]
  trivial
theorem so35_ : SpecOk P1 gl1 35 sp35 := by
  intro vs ps r h _
  simp only [sp35] at h
  split at h
  · cases h; exact fn35 _ _ _ _ _ _ _ 
  · cases h
theorem so35 : Sp1 35 sp35 := ⟨so35_, Proofs.Tryd.f35, _, by kernel_rfl, rfl, by kernel_rfl⟩
theorem fn5 (R : List Rl) (L : List Ed) (l : List Int) (F : Int) (D : Bool) (hh mm ss ff uu : Int) (hl : R.length ≤ 9223372036854775807) (hL : L.length ≤ 9223372036854775807) (hF : ∀ x ∈ L, fits .i64 x.2.2.1) : Fn P1 gl1 5 [.one (.sl rlT R), .one (.sl edT L), .agg [.one (.sl (.int .i64) l), .one (.int .i64 F), .one (.bool D), .one (.int .i64 hh), .one (.int .i64 mm), .one (.int .i64 ss), .one (.int .i64 ff), .one (.int .i64 uu)]] (.val (bV true)) true := by
  refine Fn.flat ?_ rfl
  refine fn_of false [(35, sp35), (24, sp24), (25, sp25), (26, sp26), (8, sp8), (27, sp27), (29, sp29), (30, sp30), (28, sp28), (31, sp31), (33, sp33), (34, sp34), (32, sp32), (10, sp10), (11, sp11), (17, sp17)] [] h5 0 Proofs.Tryd.f5 ⟨so35, so24, so25, so26, so8, so27, so29, so30, so28, so31, so33, so34, so32, so10, so11, so17, trivial⟩ trivial (by kernel_rfl) rfl (by kernel_rfl) rfl rfl rfl ?_
  rw [vc5]
  try simp only [splitB_iff, -eq_self]
  simp only [eq_self, true_and, and_true, and_self]
  have hsh : (!shortB R L) = false → (R.length ≤ 9 ∧ ∀ r ∈ R, r.2.2.length ≤ 257 ∧ (r.2.2.length ≤ 20 ∨ r.2.2.length = 257) ∧ r.1.length ≤ 40) ∧ (L.length ≤ 6 ∨ L.length = 17) := fun h => by
    simp only [Bool.not_eq_false', shortB, shortE, shortR, Bool.and_eq_true, Bool.or_eq_true, List.all_eq_true, decide_eq_true_eq] at h
    obtain ⟨h1, h2, h3, h4⟩ := h
    exact ⟨⟨by omega, fun r hr => by have := h1 r hr; omega⟩, by omega⟩
  refine ⟨hl, hL, fun h => by have := hsh h; omega, fun h r hr => by have := (hsh h).1.2 r hr; omega, fun h => by have := hsh h; omega, fun _ => hF, fun _ => trivial, fun h => ?_⟩
  simp only [bcond_l, Bool.or_eq_false_iff, decide_eq_false_iff_not, bne_eq_false_iff_eq] at h
  obtain ⟨⟨⟨⟨h1, h2⟩, h8⟩, hc⟩, hst⟩ := h
  obtain ⟨⟨hR9, hRx⟩, hLx⟩ := hsh h1
  have hk := chkEds_zero.1 h2
  have hL6 : L.length ≤ 6 := by have := hk.len; omega
  have hR20 : ∀ r ∈ R, r.2.2.length ≤ 20 := fun r hr => by
    have h3 := hRx r hr
    obtain ⟨j, hj, rfl⟩ := mem_getD r0 hr
    have h4 := reel_bd hk.rs (R.getD j r0).1
    have h5 : rlOf R (R.getD j r0).1 = R.getD j r0 := by unfold rlOf; rw [idx_reel (rs_nodup hk.rs) hj]
    rw [h5] at h4
    omega
  have hn0 := lenL_nn hk
  have hn1 : lenL L ≤ 120 := by
    have := begN_short hk hR20 L.length (Nat.le_refl _)
    unfold lenL; omega
  have hso : StOk ((F, D), (hh, mm, ss, ff), uu) := chkStZ.1 hst
  have hso1 : RateOk F D := hso.1
  have hso2 : LabOk F D hh mm ss ff := hso.2.1
  have hdb := dayN_bd hso1
  have hfr := frame_range hso1 hso2
  have eN : lenN R L = lenL L := by unfold lenN; rw [if_pos h2]
  have eC : convE R L l = 0 := by
    have : first [chkEds R L, chkCad l] = 0 := by rw [h2, hc]; rfl
    unfold convE
    rw [if_neg (by simpa using this), if_neg (by omega)]
  obtain ⟨n, hn⟩ : ∃ n : Nat, lenL L = (n : Int) := ⟨(lenL L).toNat, by omega⟩
  have eV : convL R L l = pullN l n := by unfold convL; rw [if_pos eC, hn]; rfl
  have eS : startsN R L = (ls L).map fun x => x.2 := by unfold startsN; rw [if_pos h2]
  have lS : (startsN R L).length = L.length := by rw [eS, List.length_map, ls_len]
  have gS : ∀ g, g < L.length → (startsN R L).getD g 0 = begN L g := fun g hg => by
    have : (startsN R L).getD g 0 = ((ls L).getD g pl0).2 := by
      rw [eS, List.getD_eq_getElem?_getD, List.getElem?_map, List.getD_eq_getElem?_getD, List.getElem?_eq_getElem (by rw [ls_len]; exact hg)]; rfl
    rw [this, ls_get L hg]
  have lB : (labsN ((F, D), (hh, mm, ss, ff), uu) (ls L)).length = L.length := by unfold labsN; rw [List.length_map, ls_len]
  have gB : ∀ g, g < L.length → (labsN ((F, D), (hh, mm, ss, ff), uu) (ls L)).getD g (0, 0, 0, 0) = lab F D (addN F D hh mm ss ff (begN L g)) := fun g hg => by
    have : (labsN ((F, D), (hh, mm, ss, ff), uu) (ls L)).getD g (0, 0, 0, 0) = lab F D (addN F D hh mm ss ff ((ls L).getD g pl0).2) := by
      unfold labsN
      rw [List.getD_eq_getElem?_getD, List.getElem?_map, List.getD_eq_getElem?_getD, List.getElem?_eq_getElem (by rw [ls_len]; exact hg)]; rfl
    rw [this, ls_get L hg]
  have hrep : List.replicate 2 (0 : Int) = [0, 0] := rfl
  have hu := und_spec (l := l) (show n ≤ 256 by omega)
  have hu2 := und_near hc (show n ≤ 256 by omega)
  have hpl := pull_len hc n
  have hcad := chkCad_ok hc
  simp only [h2, eC, eV, eN, hrep, hn, if_true]
  refine ⟨by omega, fun r hr => by have := hR20 r hr; omega, by omega, by omega, fun r hr => by have := hR20 r hr; omega, by omega, by omega, fun r hr => by have := hR20 r hr; omega, by omega, by simp only [room]; omega, by omega, fun r hr => by have := hR20 r hr; omega, by omega, fun h => ?_, fun _ => ?_⟩
  · exfalso
    simp only [lS, bne_self_eq_false, bcond_l, Bool.or_false, Bool.false_or, Bool.or_eq_true, decide_eq_true_eq] at h
    omega
  refine ⟨by simp only [room]; omega, by simp only [room]; omega, hc, by omega, pull_two n, ⟨n, by omega, rfl⟩, fun _ => by simp only [fits]; omega, fun h => ?_, fun _ => ⟨⟨0, Nat.zero_le _, rfl, rfl⟩, fun g hg => ⟨fun hlt => ?_, fun hge => ?_⟩⟩⟩
  · exfalso
    simp only [bne_self_eq_false, bcond_l, Bool.false_or, Bool.or_eq_true, decide_eq_true_eq] at h
    omega
  · have hlt' : g < (pullN l n).length := by have := of_decide_eq_true hlt; omega
    have hp := pull_at hc n g hlt'
    refine ⟨by omega, hlt', by omega, fun _ => by simp only [fits]; omega, fun h => ?_, fun _ => ⟨by simp only [fits]; omega, by omega, fun _ => by simp only [fits]; omega, fun h => ?_, fun _ => ⟨by simp only [fits]; omega, by simp only [fits]; omega, g + 1, hlt', by omega, by omega, rfl⟩⟩⟩
    all_goals
      exfalso
      simp only [bcond_l, Bool.or_eq_true, decide_eq_true_eq] at h
      omega
  refine ⟨by simp only [room]; omega, ⟨0, Nat.zero_le _, rfl, rfl⟩, fun g hg => ⟨fun hlt => ?_, fun hge => ?_⟩⟩
  · have hlt' : g < L.length := by have := of_decide_eq_true hlt; omega
    have hpn := pln_len L g
    exact ⟨by omega, by omega, by simp only [fits]; omega, g + 1, hlt', by omega, by omega, rfl⟩
  have hgL : g = L.length := by
    have h3 := of_decide_eq_false hge
    have h4 : g ≤ L.length := hg
    omega
  subst hgL
  have hpn := pln_len L L.length
  refine ⟨by omega, fun r hr => by have := hRx r hr; omega, by omega, fun x hx => ?_, fun hz => ?_, fun hz => ?_⟩
  · obtain ⟨y, hy, _, _, e⟩ := pln_mem hx
    rw [e]; exact hF y hy
  · have hz' : chkEds R (plnTo L L.length) = 0 := by simpa using hz
    have hkp := chkEds_zero.1 hz'
    have hpp := play_plain hz'
    simp only [hz', hpn]
    refine ⟨by omega, fun r hr => by have := hR20 r hr; omega, by omega, by omega, fun r hr => by have := hR20 r hr; omega, by omega, ⟨0, Nat.zero_le _, rfl, rfl⟩, fun g1 hg1 => ⟨fun hlt1 => ?_, fun hge1 => ?_⟩⟩
    · have hlt1' : g1 < L.length := by have := of_decide_eq_true hlt1; omega
      have hE := chkEd_ok (hkp.ed g1 (by omega))
      have w1 := want_len hR20 (plnTo L L.length) g1
      have e1 := hE.lo
      have e2 := hE.hi
      have e3 := hE.lt
      have hidx := hE.idx
      clear hE
      generalize hx : (plnTo L L.length).getD g1 e0 = x at *
      have hpx : ((x.1, x.2.1, x.2.2.1, x.2.2.2.1, x.2.2.2.2) : Ed) = x := rfl
      simp only [hpx]
      have hrb := reel_bd hkp.rs x.1
      unfold endR at e2
      refine ⟨by omega, by omega, ⟨0, Nat.zero_le _, rfl, by rw [if_neg (Nat.not_lt_zero _), List.append_nil]⟩, fun g2 hg2 => ⟨fun hlt2 => ⟨by have := of_decide_eq_true hlt2; omega, fun heq => ?_, fun hne => ?_⟩, fun hge2 => ?_⟩⟩
      · have hlt2' : g2 < R.length := by have := of_decide_eq_true hlt2; omega
        have heq' : (R.getD g2 r0).1 = x.1 := by simpa using heq
        have hi : idxN x.1 R = g2 := by rw [← heq']; exact idx_reel (rs_nodup hkp.rs) hlt2'
        have hrl : R.getD g2 r0 = rlOf R x.1 := by unfold rlOf; rw [hi]
        rw [hrl, hi, if_neg (Nat.lt_irrefl _), List.append_nil]
        have hcut : (List.take ((x.2.2.1 - (rlOf R x.1).2.1).toNat - (x.2.1 - (rlOf R x.1).2.1).toNat) (List.drop (x.2.1 - (rlOf R x.1).2.1).toNat (rlOf R x.1).2.2)) = partN (rlOf R x.1) x := rfl
        rw [hcut]
        have hpl2 : (partN (rlOf R x.1) x).length ≤ 256 := by
          unfold partN; rw [List.length_take, List.length_drop]; omega
        refine ⟨by simp only [fits]; omega, by simp only [fits]; omega, by omega, by simp only [room]; omega, by simp only [fits]; omega, g2 + 1, hlt2', by omega, by omega, ?_⟩
        rw [if_pos (Nat.lt_succ_self _)]
      · have hlt2' : g2 < R.length := by have := of_decide_eq_true hlt2; omega
        have hne' : (R.getD g2 r0).1 ≠ x.1 := by simpa using hne
        have hi : idxN x.1 R ≠ g2 := fun e => hne' (by have := idxN_name hidx; unfold rlOf at this; rwa [e] at this)
        refine ⟨by simp only [fits]; omega, g2 + 1, hlt2', by omega, by omega, ?_⟩
        by_cases hlt3 : idxN x.1 R < g2
        · rw [if_pos hlt3, if_pos (by omega)]
        · rw [if_neg hlt3, if_neg (by omega)]
      · have hge2' : g2 = R.length := by
          have h3 := of_decide_eq_false hge2
          have h4 : g2 ≤ R.length := hg2
          omega
        refine ⟨by simp only [fits]; omega, g1 + 1, hlt1', by omega, by omega, ?_⟩
        rw [if_pos (by omega)]
        simp only [wantTo, hx]
    · have hg1L : g1 = L.length := by
        have h3 := of_decide_eq_false hge1
        have h4 : g1 ≤ L.length := hg1
        omega
      subst hg1L
      have w1 := want_len hR20 (plnTo L L.length) L.length
      rw [hpp]
      refine ⟨fun _ => by omega, fun h => ?_, fun _ => ?_⟩
      · simp at h
      refine ⟨by omega, fun r hr => by have := hR20 r hr; omega, by omega, by omega, fun r hr => by have := hR20 r hr; omega, by omega, hso, hso1, hso1, hso2, fun h => ?_, fun _ => ⟨⟨0, Nat.zero_le _, rfl⟩, fun g2 hg2 => ⟨fun hlt2 => ?_, fun _ => trivial⟩⟩⟩
      · exfalso
        simp only [lB, bne_self_eq_false, bcond_l, Bool.or_false, Bool.false_or, decide_eq_true_eq] at h
        omega
      · simp only [lB] at hg2 hlt2 ⊢
        have hg3 : g2 < L.length := by have := of_decide_eq_true hlt2; omega
        have hst' := gS g2 hg3
        have hlb := gB g2 hg3
        have hbm := begN_mono hk.eds (show 0 ≤ g2 by omega) (by omega)
        have hbm2 := begN_mono hk.eds (show g2 ≤ L.length by omega) (Nat.le_refl _)
        have hb0 : begN L 0 = 0 := rfl; have hbl : begN L L.length = lenL L := rfl
        have hq0 : 0 ≤ addN F D hh mm ss ff (begN L g2) := Int.emod_nonneg _ (by omega)
        have hq1 : addN F D hh mm ss ff (begN L g2) < dayN F D := Int.emod_lt_of_pos _ (by omega)
        have hlo := lab_ok hso1 hq0 hq1
        rw [hlb, hst']
        have hfe : frameN F D (lab F D (addN F D hh mm ss ff (begN L g2))).1 (lab F D (addN F D hh mm ss ff (begN L g2))).2.1 (lab F D (addN F D hh mm ss ff (begN L g2))).2.2.1 (lab F D (addN F D hh mm ss ff (begN L g2))).2.2.2 = (frameN F D hh mm ss ff + begN L g2) % dayN F D := hlo.2
        rw [hfe]
        refine ⟨by omega, hg3, hso1, hlo.1, fun _ => by omega, fun _ => by omega, fun _ => by simp only [fits]; omega, fun _ => by omega, fun h => ?_, fun _ => ⟨by simp only [fits]; omega, g2 + 1, hg3, by omega, by omega⟩⟩
        simp at h
  · refine ⟨by omega, fun r hr => by have := hR20 r hr; omega, by omega, by omega, fun r hr => by have := hR20 r hr; omega, by omega, hso, hso1, hso1, hso2, fun h => ?_, fun _ => ⟨⟨0, Nat.zero_le _, rfl⟩, fun g2 hg2 => ⟨fun hlt2 => ?_, fun _ => trivial⟩⟩⟩
    · exfalso
      simp only [lB, bne_self_eq_false, bcond_l, Bool.or_false, Bool.false_or, decide_eq_true_eq] at h
      omega
    · simp only [lB] at hg2 hlt2 ⊢
      have hg3 : g2 < L.length := by have := of_decide_eq_true hlt2; omega
      have hst' := gS g2 hg3
      have hlb := gB g2 hg3
      have hbm := begN_mono hk.eds (show 0 ≤ g2 by omega) (by omega)
      have hbm2 := begN_mono hk.eds (show g2 ≤ L.length by omega) (Nat.le_refl _)
      have hb0 : begN L 0 = 0 := rfl; have hbl : begN L L.length = lenL L := rfl
      have hq0 : 0 ≤ addN F D hh mm ss ff (begN L g2) := Int.emod_nonneg _ (by omega)
      have hq1 : addN F D hh mm ss ff (begN L g2) < dayN F D := Int.emod_lt_of_pos _ (by omega)
      have hlo := lab_ok hso1 hq0 hq1
      rw [hlb, hst']
      have hfe : frameN F D (lab F D (addN F D hh mm ss ff (begN L g2))).1 (lab F D (addN F D hh mm ss ff (begN L g2))).2.1 (lab F D (addN F D hh mm ss ff (begN L g2))).2.2.1 (lab F D (addN F D hh mm ss ff (begN L g2))).2.2.2 = (frameN F D hh mm ss ff + begN L g2) % dayN F D := hlo.2
      rw [hfe]
      refine ⟨by omega, hg3, hso1, hlo.1, fun _ => by omega, fun _ => by omega, fun _ => by simp only [fits]; omega, fun _ => by omega, fun h => ?_, fun _ => ⟨by simp only [fits]; omega, g2 + 1, hg3, by omega, by omega⟩⟩
      simp at h

end Go.Sx
