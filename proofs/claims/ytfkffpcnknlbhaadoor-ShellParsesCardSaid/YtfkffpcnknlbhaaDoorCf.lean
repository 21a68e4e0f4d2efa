/-
  DERIVED. The tables of the interpreter for this seat, by program.
  Conditions: none.
-/
import Derived.Test.YtfkffpcnknlbhaaDoorProg
import Derived.KernelRfl
import Derived.Test.YtfkffpcnknlbhaaDoorP1
import Derived.Lib.Atoi
import Derived.Test.YtfkffpcnknlbhaaDoorAbA
set_option linter.all false
set_option maxHeartbeats 4000000
namespace Go.Proofs.YtfkffpcnknlbhaaDoor
namespace Ab
def cfgLoc : FuncId → Nat → Bool
  | 6 => fun d => [8].contains d
  | 12 => fun d => [2, 8].contains d
  | 30 => fun d => [11].contains d
  | _ => fun _ => false
def cfgLive3 : Nat → List Nat
  | 0 => [0]
  | 1 => [0, 3, 4, 5]
  | 2 => [3, 4, 5, 6, 7, 8]
  | 3 => [3, 6, 40]
  | 4 => [2]
  | 5 => [3, 6, 9]
  | 6 => [3, 6, 9, 44]
  | 7 => [3, 6, 9]
  | 8 => [3, 6, 9, 85]
  | 9 => [2]
  | 10 => [3, 6, 9, 10]
  | 11 => [3, 6, 9, 10, 93]
  | 12 => [3, 6, 9, 10]
  | 13 => [3, 6, 9, 10, 112]
  | 14 => [2]
  | 15 => [11, 13]
  | 16 => [2]
  | _ => []
def cfgLive4 : Nat → List Nat
  | 0 => [0]
  | 1 => [2, 3, 4]
  | _ => []
def cfgLive5 : Nat → List Nat
  | 0 => [0]
  | 1 => [0, 15]
  | 2 => [2, 3, 4]
  | 3 => [0, 5]
  | 4 => [5, 6]
  | 5 => [5, 6, 7]
  | 6 => [5, 6, 7, 21]
  | 7 => [5, 6, 7]
  | 8 => [5, 6, 7, 8, 9]
  | 9 => [5, 6, 7, 8, 9, 38]
  | 10 => [5, 6, 7, 8, 9, 10, 11]
  | 11 => [5, 6, 7, 8, 9, 10, 45]
  | 12 => [2, 3, 4]
  | 13 => [5, 6, 7, 8, 11, 12]
  | 14 => [5, 6, 7, 8, 12, 60]
  | 15 => [2, 3, 4]
  | 16 => [5, 6, 7]
  | 17 => [2, 3, 4]
  | _ => []
def cfgLive6 : Nat → List Nat
  | 0 => [0]
  | 1 => [0, 12]
  | 2 => [2, 3, 4]
  | 3 => [0, 5]
  | 4 => [0, 5, 6]
  | 5 => [0, 5, 6, 14]
  | 6 => [0, 5, 6]
  | 7 => [0, 5, 6]
  | 8 => [0, 5, 6, 7]
  | 9 => [0, 5, 6, 8, 9]
  | 10 => [0, 5, 6, 8, 9, 33]
  | 11 => [0, 5, 6, 8, 40]
  | 12 => [2, 3, 4]
  | 13 => [0, 5, 6, 8]
  | 14 => [0, 5, 6]
  | 15 => [2, 3, 4]
  | _ => []
def cfgLive7 : Nat → List Nat
  | 0 => [0]
  | 1 => [0, 3]
  | 2 => [0, 3, 4]
  | 3 => [0, 3, 4, 5]
  | 4 => [0, 3, 4, 5, 9]
  | 5 => [0, 3, 4, 5]
  | 6 => [0, 3, 4, 5, 15]
  | 7 => [0, 3, 5]
  | 8 => [0, 3, 4, 5]
  | 9 => [0, 3, 4, 28]
  | 10 => [3]
  | 11 => [2]
  | _ => []
def cfgLive8 : Nat → List Nat
  | 0 => [0]
  | 1 => [0, 4]
  | 2 => [0, 4, 15]
  | 3 => [0, 4]
  | 4 => [0, 4, 5]
  | 5 => [0, 4, 5, 28]
  | 6 => [0, 4, 5]
  | 7 => [2, 3]
  | _ => []
def cfgLive9 : Nat → List Nat
  | 0 => [0]
  | 1 => [4]
  | 2 => [4, 5]
  | 3 => [4, 5]
  | 4 => [4, 5]
  | 5 => [4, 5]
  | 6 => [4, 5]
  | 7 => [2, 3]
  | 8 => [4, 11]
  | 9 => [4, 11]
  | 10 => [4, 11]
  | 11 => [2, 3]
  | 12 => [4, 15]
  | 13 => [4, 15]
  | 14 => [4, 15]
  | 15 => [2, 3]
  | 16 => [4, 19]
  | 17 => [2, 3]
  | 18 => [4, 21]
  | 19 => [4, 21]
  | 20 => [2, 3]
  | 21 => [4, 24]
  | 22 => [4, 24]
  | 23 => [4, 24]
  | 24 => [2, 3]
  | 25 => [4, 28]
  | 26 => [2, 3]
  | 27 => [30]
  | 28 => [2, 3]
  | 29 => [2, 3]
  | _ => []
def cfgLive10 : Nat → List Nat
  | 0 => [0, 1]
  | 1 => [0, 1, 6]
  | 2 => [0, 1, 6, 7]
  | 3 => [0, 1, 6, 7, 14]
  | 4 => [0, 1, 6, 7]
  | 5 => [0, 1, 6, 7, 20]
  | 6 => [6, 8]
  | 7 => [4, 5]
  | 8 => [0, 6, 7, 9, 10]
  | 9 => [0, 6, 7, 9, 10, 37]
  | 10 => [6, 9, 10, 39]
  | 11 => [6, 10]
  | 12 => [6, 9, 10]
  | 13 => [4, 5]
  | 14 => [0, 6, 7, 9, 10, 73]
  | 15 => [4, 5]
  | 16 => [0, 6, 7, 10]
  | 17 => [0, 1, 6, 7]
  | 18 => [4, 5]
  | _ => []
def cfgLive12 : Nat → List Nat
  | 0 => [0, 2]
  | 1 => [2, 4, 5]
  | 2 => [2, 4, 5, 22]
  | 3 => [2, 3]
  | 4 => [2, 4, 5, 6, 7]
  | 5 => [2, 4, 5, 6, 30]
  | 6 => [2, 3]
  | 7 => [2, 5, 6, 8]
  | 8 => [2, 5, 6, 8, 35, 36]
  | 9 => [2, 5, 6, 8, 35, 36, 37]
  | 10 => [2, 5, 6, 8, 9, 35, 36]
  | 11 => [2, 5, 6, 8, 9, 35, 36, 41]
  | 12 => [2, 5, 6, 8, 9, 35, 36, 41, 42]
  | 13 => [2, 8, 10]
  | 14 => [2, 8, 10]
  | 15 => [2, 3]
  | 16 => [2, 5, 6, 8, 9, 35, 36, 55]
  | 17 => [2, 8]
  | 18 => [2, 3]
  | 19 => [2, 4, 5, 6, 8, 9, 35, 36]
  | 20 => [2, 4, 5, 6, 8, 35, 36, 74]
  | 21 => [2, 3]
  | 22 => [2, 5, 6, 8, 35, 36]
  | 23 => [2, 5, 6, 8, 35, 36]
  | 24 => [2, 3]
  | _ => []
def cfgLive13 : Nat → List Nat
  | 0 => [0]
  | 1 => [0, 3, 4]
  | 2 => [0, 3, 4, 15]
  | 3 => [0, 3, 4]
  | 4 => [0, 3, 4, 27]
  | 5 => [0, 3, 4]
  | 6 => [2]
  | _ => []
def cfgLive14 : Nat → List Nat
  | 0 => [0]
  | 1 => [0, 3]
  | 2 => [0, 3, 12]
  | 3 => [2]
  | 4 => [0, 3, 4]
  | 5 => [0, 3, 4, 16]
  | 6 => [0, 3, 4]
  | 7 => [0, 3, 4, 28]
  | 8 => [2]
  | 9 => [0, 3, 4]
  | 10 => [2]
  | _ => []
def cfgLive16 : Nat → List Nat
  | 0 => [0]
  | 1 => [0]
  | 2 => [4, 5]
  | 3 => [2, 3]
  | _ => []
def cfgLive17 : Nat → List Nat
  | 0 => [0]
  | 1 => [4]
  | 2 => [4, 5]
  | 3 => [4, 5]
  | 4 => [4, 5]
  | 5 => [4, 5]
  | 6 => [4, 5]
  | 7 => [2, 3]
  | 8 => [4, 11]
  | 9 => [4, 11]
  | 10 => [4, 11]
  | 11 => [2, 3]
  | 12 => [4, 15]
  | 13 => [4, 15]
  | 14 => [4, 15]
  | 15 => [2, 3]
  | 16 => [4, 19]
  | 17 => [2, 3]
  | 18 => [4, 21]
  | 19 => [4, 21]
  | 20 => [2, 3]
  | 21 => [4, 24]
  | 22 => [4, 24]
  | 23 => [4, 24]
  | 24 => [2, 3]
  | 25 => [4, 28]
  | 26 => [2, 3]
  | 27 => [30]
  | 28 => [2, 3]
  | 29 => [2, 3]
  | _ => []
def cfgLive19 : Nat → List Nat
  | 0 => [0]
  | 1 => [2]
  | _ => []
def cfgLive20 : Nat → List Nat
  | 0 => [0, 1]
  | 1 => [1, 8]
  | 2 => [6]
  | 3 => [4]
  | 4 => [4]
  | _ => []
def cfgLive30 : Nat → List Nat
  | 0 => [0, 1]
  | 1 => [0, 1, 5]
  | 2 => [0, 1, 5, 6]
  | 3 => [0, 1, 5, 6, 14]
  | 4 => [0, 1, 5, 6, 14, 15, 16]
  | 5 => [0, 1, 5, 6, 7, 8, 14]
  | 6 => [0, 1, 5, 6, 7, 14, 21]
  | 7 => [0, 1, 5, 6, 7, 14, 23]
  | 8 => [0, 1, 5, 6, 14]
  | 9 => [0, 1, 5, 6, 14]
  | 10 => [0, 1, 5, 6, 7, 14, 33]
  | 11 => [0, 1, 5, 6, 14]
  | 12 => [0, 5, 6, 36]
  | 13 => [0, 5]
  | 14 => [0, 5, 9]
  | 15 => [0, 9, 47, 48, 49]
  | 16 => [0, 9, 47, 48, 49, 50]
  | 17 => [0, 9, 10, 11, 47, 48, 49]
  | 18 => [0, 9, 47, 48, 49]
  | 19 => [0, 9, 47, 48, 49]
  | 20 => [4]
  | _ => []
def cfgLive31 : Nat → List Nat
  | 0 => [0]
  | 1 => [2]
  | _ => []
def cfgLive32 : Nat → List Nat
  | 0 => [0]
  | 1 => [0, 17]
  | 2 => [2, 3]
  | 3 => [4]
  | 4 => [2, 3]
  | _ => []
def cfgLive : FuncId → Nat → List Nat
  | 3 => cfgLive3
  | 4 => cfgLive4
  | 5 => cfgLive5
  | 6 => cfgLive6
  | 7 => cfgLive7
  | 8 => cfgLive8
  | 9 => cfgLive9
  | 10 => cfgLive10
  | 12 => cfgLive12
  | 13 => cfgLive13
  | 14 => cfgLive14
  | 16 => cfgLive16
  | 17 => cfgLive17
  | 19 => cfgLive19
  | 20 => cfgLive20
  | 30 => cfgLive30
  | 31 => cfgLive31
  | 32 => cfgLive32
  | _ => fun _ => []
def cfgPure : FuncId → Bool
  | 4 => true
  | 5 => true
  | 6 => true
  | 7 => true
  | 8 => true
  | 9 => true
  | 10 => true
  | 12 => true
  | 13 => true
  | 14 => true
  | 16 => true
  | 17 => true
  | 19 => true
  | 20 => true
  | 30 => true
  | 31 => true
  | 32 => true
  | _ => false

/-- What the library's functions over texts answer. -/
def intr30 : FuncId → Option (List AV → Option AV)
  | 11 => some fun args => match args with
    | [.s s, .s p] => match p.data.toList with
      | [c] => if s.size < 4294967281 then some (.tup [.s (ba (hd c s.data.toList)), .s (ba (tl c s.data.toList)), .b (s.data.toList.contains c)]) else none
      | _ => none
    | _ => none
  | 18 => some fun args => match args with
    | [.s s, .s p] => if s.size < 4294967281 ∧ p.size < 4294967281 ∧ (p.data.toList.all fun b => decide (b.toNat < 128)) = true then some (.s (ba (Lib.trimS s.data.toList p.data.toList))) else none
    | _ => none
  | 22 => some fun args => match args with
    | [.s s, .s p] => if p.size < 4294967281 ∧ (p.data.toList.all fun b => decide (b.toNat < 128)) = true then some (.s (ba (Lib.trimLeftS s.data.toList p.data.toList))) else none
    | _ => none
  | 41 => some fun args => match args with
    | [.s s] => match Lib.atoi s.data.toList with
      | some n => if s.size ≤ 18 then some (.tup [.i .i64 n, .undef]) else none
      | none => none
    | _ => none
  | _ => none
noncomputable def cfg : Cfg := { P := Go.Proofs.Tryd.prog, loc := cfgLoc, live := cfgLive, pure := cfgPure, intr := intr30 }
theorem cP : cfg.P = Tryd.prog := rfl
end Ab
end Go.Proofs.YtfkffpcnknlbhaaDoor
