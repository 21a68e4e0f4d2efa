/-
  DERIVED. AN ABSTRACT INTERPRETER over the loaded program's own code: definitions alone. Values without addresses: a slice that nobody writes any more is the list of its rows ('vs'), one that the code itself is filling is a number of an object ('rs').
  Conditions: none; nothing is claimed here.
-/
import Derived.Orders
import Derived.LoopN
import Derived.RowKit3
import Derived.Laws.Cells
import Derived.Laws.IdiomCopy
import Derived.Deep.Upon
set_option linter.all false
set_option maxHeartbeats 4000000
namespace Go.Proofs.YtidoflgcblglbaaDoor
namespace Ab

inductive AV where
  | b (x : Bool)
  | i (k : IntKind) (n : Int)
  | s (x : ByteArray)
  | agg (cs : List AV)
  | tup (xs : List AV)
  | vs (nil : Bool) (sz : Nat) (rows : List (List AV))
  | rs (k g i0 len sz : Nat)
  | np
  | ptr (k g o : Nat)
  | pe (k g i o sz : Nat)
  | vp (cs : List AV)
  | lp (d n o : Nat)
  | fn (f : FuncId) (cap : List AV)
  | nfn
  | mp (k : Option Nat)
  | undef
  deriving Inhabited

inductive AO where
  | cells (cs : List AV)
  | arr (sz : Nat) (rows : List (List AV))
  | mp (es : List (AV × AV))
  | sit (s : ByteArray) (pos : Nat)
  deriving Inhabited

/-- An object: of a slot of this frame, or of the heap; each with how often its place has been laid anew. -/
inductive Ref where
  | l (d n : Nat)
  | h (k g : Nat)
  deriving DecidableEq

/- Small maps by number. -/
def lk {α : Type} : List (Nat × α) → Nat → Option α
  | [], _ => none
  | (j, x) :: r, k => if j = k then some x else lk r k
def up {α : Type} : List (Nat × α) → Nat → α → List (Nat × α)
  | [], k, x => [(k, x)]
  | (j, y) :: r, k, x => if j = k then (j, x) :: r else (j, y) :: up r k x
def rm {α : Type} : List (Nat × α) → Nat → List (Nat × α)
  | [], _ => []
  | (j, y) :: r, k => if j = k then rm r k else (j, y) :: rm r k

structure St where
  env : List (Nat × AV)
  loc : List (Nat × (Nat × AO))
  hp : List (Nat × (Nat × AO))
  nx : Nat

def lkg (l : List (Nat × (Nat × AO))) (k g : Nat) : Option AO := match lk l k with
  | some (m, o) => if m = g then some o else none
  | none => none

def St.get (st : St) : Ref → Option AO
  | .l d n => lkg st.loc d n
  | .h k g => lkg st.hp k g

abbrev Wr := Ref × Option AO

def St.wr1 (st : St) : Wr → St
  | (.l d n, some o) => { st with loc := up st.loc d (n, o) }
  | (.l d _, none) => { st with loc := rm st.loc d }
  | (.h k g, some o) => { st with hp := up st.hp k (g, o) }
  | (.h k _, none) => { st with hp := rm st.hp k }

def St.wrs (st : St) (l : List Wr) : St := l.foldl St.wr1 st

/-- A value that may be copied about. -/
def AV.mv : AV → Bool
  | .lp _ _ _ => false
  | _ => true
/-- A value that may lie in one cell. -/
def AV.okc : AV → Bool
  | .lp _ _ _ | .agg _ | .tup _ | .undef => false
  | _ => true

/- Constants. -/
def ofC0 : Value → AV
  | .bool b => .b b
  | .int k n => .i k n
  | .string s => .s s
  | .slice none 0 0 => .vs true 0 []
  | .pointer none => .np
  | .nilFunc => .nfn
  | .map none => .mp none
  | _ => .undef
def ofC : Value → AV
  | .agg cs => if (cs.toList.map ofC0).all AV.okc then .agg (cs.toList.map ofC0) else .undef
  | v => ofC0 v

def AV.cells : AV → List AV
  | .agg cs => cs
  | v => [v]

def ev (env : List (Nat × AV)) : Operand → AV
  | .tmp t => (lk env t).getD .undef
  | .const v => ofC v
  | .func f => .fn f []
  | .global _ => .undef

abbrev Res := Option (AV × List Wr)
def ret (v : AV) : Res := some (v, [])

section
variable (P : Program)

def aggD : TypeDesc → Bool
  | .struct _ | .array _ _ => true
  | _ => false
def isAgg (t : TypeId) : Bool := match P.underlying t with
  | some d => aggD d
  | none => false
def szOf (t : TypeId) : Option Nat := (P.info? t).map (·.size)
def byOf (t : TypeId) : Option Nat := (P.info? t).map (·.bytes)
def zeroOf (t : TypeId) : Option (List AV) := ((P.info? t).bind (·.zero)).map fun v => (ofC v).cells

/-- What is read of a row of cells from place o on. -/
def ldA (t : TypeId) (cs : List AV) (o : Nat) : Option AV :=
  match P.underlying t with
  | none => none
  | some d => if aggD d then match szOf P t with
      | some n => if o + n ≤ cs.length then some (.agg ((cs.drop o).take n)) else none
      | none => none
    else cs[o]?
def stA (t : TypeId) (cs : List AV) (o : Nat) (v : AV) : Option (List AV) :=
  match v with
  | .agg vs => if szOf P t = some vs.length ∧ o + vs.length ≤ cs.length ∧ vs.all AV.okc then some (cs.take o ++ vs ++ cs.drop (o + vs.length)) else none
  | v => if szOf P t = some 1 ∧ o < cs.length ∧ v.okc then some (cs.set o v) else none

def elemOf (t : TypeId) : Option TypeId := match P.underlying t with
  | some (.slice e) => some e
  | _ => none

/- Numbers, strings. -/
def intBin (op : BinOp) (k : IntKind) (x : Int) (k' : IntKind) (y : Int) : Option AV :=
  match op with
  | .shl => if y < 0 then none else some (.i k (k.wrap (x * 2 ^ (min y.toNat k.bits))))
  | .shr => if y < 0 then none else some (.i k (x.fdiv (2 ^ (min y.toNat k.bits))))
  | op => if k ≠ k' then none else match op with
    | .add => some (.i k (k.wrap (x + y)))
    | .sub => some (.i k (k.wrap (x - y)))
    | .mul => some (.i k (k.wrap (x * y)))
    | .quo => if y = 0 then none else some (.i k (k.wrap (x.tdiv y)))
    | .rem => if y = 0 then none else some (.i k (x.tmod y))
    | .and => some (.i k (k.wrap (BitVec.ofInt k.bits x &&& BitVec.ofInt k.bits y).toNat))
    | .or => some (.i k (k.wrap (BitVec.ofInt k.bits x ||| BitVec.ofInt k.bits y).toNat))
    | .xor => some (.i k (k.wrap (BitVec.ofInt k.bits x ^^^ BitVec.ofInt k.bits y).toNat))
    | .andNot => some (.i k (k.wrap (BitVec.ofInt k.bits x &&& ~~~ (BitVec.ofInt k.bits y)).toNat))
    | .eql => some (.b (x == y))
    | .neq => some (.b (x != y))
    | .lss => some (.b (x < y))
    | .leq => some (.b (x ≤ y))
    | .gtr => some (.b (x > y))
    | .geq => some (.b (x ≥ y))
    | _ => none

def strBin (op : BinOp) (x y : ByteArray) : Option AV :=
  let eq := x.toList == y.toList
  let lt := Op.bytesLess x.toList y.toList
  match op with
  | .add => if x.size + y.size ≤ 9223372036854775807 then some (.s (x ++ y)) else none
  | .eql => some (.b eq)
  | .neq => some (.b !eq)
  | .lss => some (.b lt)
  | .leq => some (.b (lt || eq))
  | .gtr => some (.b !(lt || eq))
  | .geq => some (.b !lt)
  | _ => none

/-- Two values of one cell. -/
def eq1 (t : TypeId) (x y : AV) : Option Bool :=
  match P.underlying t, x, y with
  | some .bool, .b a, .b c => some (a == c)
  | some (.int _), .i k a, .i k' c => if k = k' then some (a == c) else none
  | some .string, .s a, .s c => some (a == c)
  | some (.pointer _), .np, .np => some true
  | some (.pointer _), .np, .ptr _ _ _ | some (.pointer _), .ptr _ _ _, .np | some (.pointer _), .np, .vp _ | some (.pointer _), .vp _, .np
  | some (.pointer _), .np, .pe _ _ _ _ _ | some (.pointer _), .pe _ _ _ _ _, .np => some false
  | some (.slice _), .vs n _ _, .vs true _ _ => some n
  | some (.slice _), .vs true _ _, .vs n _ _ => some n
  | some (.slice _), .rs _ _ _ _ _, .vs true _ _ | some (.slice _), .vs true _ _, .rs _ _ _ _ _ => some false
  | some (.func _ _ _), .nfn, .nfn => some true
  | some (.func _ _ _), .nfn, .fn _ _ | some (.func _ _ _), .fn _ _, .nfn => some false
  | some (.map _ _), .mp none, .mp m => some m.isNone
  | some (.map _ _), .mp (some _), .mp none => some false
  | _, _, _ => none

/-- The fields of two structs, one behind the other: all of one cell. -/
def eqFs (xs ys : List AV) : List Field → Option Bool
  | [] => some true
  | f :: fs =>
    if f.name = "_" then eqFs xs ys fs
    else if isAgg P f.type then none
    else match xs[f.offset]?, ys[f.offset]? with
      | some x, some y => match eq1 P f.type x y with
        | some true => eqFs xs ys fs
        | some false => some false
        | none => none
      | _, _ => none

def eqA (t : TypeId) (x y : AV) : Option Bool :=
  match x, y with
  | .agg xs, .agg ys => match P.underlying t with
    | some (.struct fields) => if P.stoodInHeld t || P.eqGuardType P.depth t then none else eqFs P xs ys fields.toList
    | _ => none
  | x, y => eq1 P t x y

def binA (op : BinOp) (t : TypeId) (x y : AV) : Option AV :=
  match x, y with
  | .i k a, .i k' c => intBin op k a k' c
  | .s a, .s c => strBin op a c
  | x, y => match op with
    | .eql => (eqA P t x y).map .b
    | .neq => (eqA P t x y).map fun r => .b !r
    | _ => none

def unA (op : UnOp) (x : AV) : Option AV :=
  match op, x with
  | .neg, .i k n => some (.i k (k.wrap (0 - n)))
  | .xor, .i k n => some (.i k (k.wrap (BitVec.ofInt k.bits (if k.signed then -1 else k.max) ^^^ BitVec.ofInt k.bits n).toNat))
  | .not, .b c => some (.b !c)
  | _, _ => none

/-- The bytes that rows of one cell each hold. -/
def bytesOf : List (List AV) → Option (List UInt8)
  | [] => some []
  | [.i .u8 n] :: r => (bytesOf r).map (UInt8.ofNat n.toNat :: ·)
  | _ :: _ => none

def rowsOfBytes (s : ByteArray) : List (List AV) := s.data.toList.map fun c => [.i .u8 (c.toNat : Int)]

/-- The rows that a slice shows. -/
def rowsOf (get : Ref → Option AO) : AV → Option (List (List AV))
  | .vs _ _ rows => some rows
  | .rs k g i0 len sz => match get (.h k g) with
    | some (.arr sz' rows) => if sz' = sz ∧ i0 + len ≤ rows.length then some ((rows.drop i0).take len) else none
    | _ => none
  | _ => none

/-- The rows of elements of so many cells that a slice shows. -/
def rowsSz (get : Ref → Option AO) (sz : Nat) : AV → Option (List (List AV))
  | .vs true _ _ => some []
  | .vs false s rows => if s = sz then some rows else none
  | .rs k g i0 len s => if s = sz then rowsOf get (.rs k g i0 len s) else none
  | _ => none

def lenOf : AV → Option Nat
  | .vs _ _ rows => some rows.length
  | .rs _ _ _ len _ => some len
  | .s x => some x.size
  | _ => none

/- Places of a struct's parts. -/
def fillA (place : Nat → Option (Nat × Nat)) (cells : List AV) : List (Nat × AV) → Option (List AV)
  | [] => some cells
  | (i, v) :: rest => match place i with
    | none => none
    | some (off, size) => if v.cells.length = size ∧ off + size ≤ cells.length ∧ v.cells.all AV.okc then
        fillA place (cells.take off ++ v.cells ++ cells.drop (off + size)) rest else none

def buildA (t : TypeId) (parts : List (Nat × AV)) : Option AV :=
  match P.underlying t, zeroOf P t with
  | some (.struct fields), some z => if !(z.all AV.okc && fields.toList.all fun f => (szOf P f.type).isSome) then none else (fillA (fun i => (fields[i]?).bind fun f => (szOf P f.type).map fun n => (f.offset, n)) z parts).map .agg
  | _, _ => none

/-- A list of whole elements: place j is element j. -/
def rowsBuilt (sz : Nat) : Nat → List (Nat × AV) → Option (List (List AV))
  | _, [] => some []
  | j, (i, v) :: rest => if i = j ∧ v.cells.length = sz ∧ v.cells.all AV.okc then (rowsBuilt sz (j + 1) rest).map (v.cells :: ·) else none

def fieldOff (t : TypeId) (f : Nat) : Option Nat :=
  match P.underlying t with
  | some (.struct fields) => match fields[f]? with
    | some fd => if szOf P fd.type = some 0 then none else if (szOf P fd.type).isNone then none else some fd.offset
    | none => none
  | _ => none

/-- How great a row may become: in bytes. -/
def mostBytes : Nat := 2 ^ 36

/-- What is read at a pointer. -/
def loadA (get : Ref → Option AO) (t : TypeId) : AV → Option AV
  | .lp d n o => match get (.l d n) with
    | some (.cells cs) => ldA P t cs o
    | _ => none
  | .ptr k g o => match get (.h k g) with
    | some (.cells cs) => ldA P t cs o
    | _ => none
  | .pe k g i o sz => match get (.h k g) with
    | some (.arr sz' rows) => if sz' = sz then match rows[i]? with
      | some r => ldA P t r o
      | none => none
      else none
    | _ => none
  | .vp cs => ldA P t cs 0
  | _ => none

def storeA (get : Ref → Option AO) (t : TypeId) (a v : AV) : Option Wr :=
  match a with
  | .lp d n o => match get (.l d n) with
    | some (.cells cs) => (stA P t cs o v).map fun cs' => (.l d n, some (.cells cs'))
    | _ => none
  | .ptr k g o => match get (.h k g) with
    | some (.cells cs) => (stA P t cs o v).map fun cs' => (.h k g, some (.cells cs'))
    | _ => none
  | .pe k g i o sz => match get (.h k g) with
    | some (.arr sz' rows) => if sz' = sz then match rows[i]? with
      | some r => (stA P t r o v).map fun r' => (.h k g, some (.arr sz' (rows.set i r')))
      | none => none
      else none
    | _ => none
  | _ => none

/-- How many cells a type's zero value has. -/
def zsz (t : TypeId) : Option Nat := ((P.info? t).bind (·.zero)).map (·.cells.size)

/-- What is put behind: a slice's rows, a string's bytes. -/
def newsA (get : Ref → Option AO) (sz : Nat) : AV → Option (List (List AV))
  | .s str => if sz = 1 then some (rowsOfBytes str) else none
  | x => rowsSz get sz x

/-- The rows that a slice shows of an array's. -/
def shown (rows : List (List AV)) (i0 len : Nat) : List (List AV) := if i0 + len = rows.length then rows.drop i0 else (rows.drop i0).take len
/-- Rows put behind those of a slice of our own, or of none. -/
def appRow (get : Ref → Option AO) (sz by_ : Nat) (new : List (List AV)) (n : Nat) : AV → Res
  | .vs true s0 _ =>
    if new.length = 0 then ret (.vs true s0 [])
    else if new.length * (by_ + 1) ≤ mostBytes then some (.rs n 0 0 new.length sz, [(.h n 0, some (.arr sz new))]) else none
  | .rs k g i0 len sz' =>
    if new.length = 0 then (if sz' = sz ∧ len * (by_ + 1) ≤ mostBytes then ret (.rs k g i0 len sz') else none)
    else match get (.h k g) with
      | some (.arr sz'' rows) =>
        if sz' = sz ∧ sz'' = sz ∧ i0 + len ≤ rows.length ∧ (len + new.length) * (by_ + 1) ≤ mostBytes then
          some (.rs k (g + 1) 0 (len + new.length) sz, [(.h k (g + 1), some (.arr sz (shown rows i0 len ++ new)))])
        else none
      | _ => none
  | _ => none

def isIntD : TypeDesc → Bool
  | .int _ => true
  | _ => false

/-- 'append': the rows of one slice behind those of another. n: the number of a new object. -/
def appendA (get : Ref → Option AO) (t tx : TypeId) (s x : AV) (n : Nat) : Res :=
  match P.underlying tx, elemOf P t with
  | some d, some e => if isIntD d then none else match szOf P e, byOf P e with
    | some sz, some by_ => if zsz P e ≠ some sz ∨ sz = 0 then none else match newsA get sz x with
      | none => none
      | some new => appRow get sz by_ new n s
    | _, _ => none
  | _, _ => none

def makeSliceA (t : TypeId) (len cap : AV) (n : Nat) : Res :=
  match elemOf P t, len, cap with
  | some e, .i _ l, .i _ c => match szOf P e, byOf P e, zeroOf P e with
    | some sz, some by_, some z =>
      if 0 < sz ∧ z.length = sz ∧ 0 ≤ l ∧ l ≤ c ∧ c.toNat * (by_ + 1) ≤ mostBytes ∧ z.all AV.okc then some (.rs n 0 0 l.toNat sz, [(.h n 0, some (.arr sz (List.replicate l.toNat z)))]) else none
    | _, _, _ => none
  | _, _, _ => none

/-- The ends of a cut. -/
def cutEnds (len : Nat) (low high max : Option AV) : Option (Nat × Nat) :=
  let bnd (x : Option AV) (d : Nat) : Option Nat := match x with
    | none => some d
    | some (.i _ n) => if 0 ≤ n then some n.toNat else none
    | _ => none
  match bnd low 0, bnd high len, bnd max len with
  | some l, some h, some m => if l ≤ h ∧ h ≤ m ∧ m ≤ len ∧ (max.isSome → high.isSome) then some (l, h) else none
  | _, _, _ => none

def sliceA (get : Ref → Option AO) (t : TypeId) (x : AV) (low high max : Option AV) : Res :=
  match P.underlying t, x with
  | some .string, .s s => if max.isSome then none else match cutEnds s.size low high none with
    | some (l, h) => ret (.s (s.extract l h))
    | none => none
  | some (.slice e), .vs nil sz rows => match cutEnds (if nil then 0 else rows.length) low high max with
    | some (l, h) => if nil then (if (szOf P e).isSome then ret (.vs true sz []) else none)
      else if szOf P e = some sz then ret (.vs false sz ((rows.take h).drop l)) else none
    | none => none
  | some (.slice e), .rs k g i0 len sz => match cutEnds len low high max, get (.h k g) with
    | some (l, h), some (.arr sz' rows) =>
      if szOf P e = some sz ∧ sz' = sz ∧ i0 + len ≤ rows.length then ret (.rs k g (i0 + l) (h - l) sz) else none
    | _, _ => none
  | _, _ => none

def convA (get : Ref → Option AO) (src dst : TypeId) (x : AV) (n : Nat) : Res :=
  match P.underlying src, P.underlying dst, x with
  | some _, some (.int k), .i _ m => ret (.i k (k.wrap m))
  | some (.string), some .string, .s s => ret (.s s)
  | some (.string), some (.slice e), .s s => match P.underlying e with
    | some (.int .u8) => if s.size ≤ mostBytes then some (.rs n 0 0 s.size 1, [(.h n 0, some (.arr 1 (rowsOfBytes s)))]) else none
    | _ => none
  | some (.slice e), some .string, x => match P.underlying e, rowsSz get 1 x with
    | some (.int .u8), some rows => match bytesOf rows with
      | some l => ret (.s ⟨l.toArray⟩)
      | none => none
    | _, _ => none
  | some (.slice _), some (.slice e), .rs k g i0 len sz => match P.underlying e, get (.h k g) with
    | some (.int .u8), some (.arr z rows) => if src = dst ∧ 0 < len then some (.rs k g i0 len sz, [(.h k g, some (.arr z rows))]) else none
    | _, _ => none
  | _, _, _ => none

def indexAddrA (t : TypeId) (x idx : AV) : Option AV :=
  match P.underlying t, x, idx with
  | some (.slice e), .vs _ sz rows, .i _ i => if 0 ≤ i ∧ szOf P e = some sz then (rows[i.toNat]?).map .vp else none
  | some (.slice e), .rs k g i0 len sz, .i _ i => if 0 ≤ i ∧ i < len ∧ szOf P e = some sz then some (.pe k g (i0 + i.toNat) 0 sz) else none
  | some (.array n e), .lp d m o, .i _ i => match szOf P e with
    | some sz => if 0 ≤ i ∧ i < n then some (.lp d m (o + i.toNat * sz)) else none
    | none => none
  | some (.array n e), .ptr k g o, .i _ i => match szOf P e with
    | some sz => if 0 ≤ i ∧ i < n then some (.ptr k g (o + i.toNat * sz)) else none
    | none => none
  | _, _, _ => none

def indexA (t : TypeId) (x idx : AV) : Option AV :=
  match P.underlying t, x, idx with
  | some .string, .s s, .i _ i => if 0 ≤ i then (s.data.toList[i.toNat]?).map fun c => .i .u8 (c.toNat : Int) else none
  | _, _, _ => none

def lenA (get : Ref → Option AO) (t : TypeId) (x : AV) : Option AV :=
  match P.underlying t, x with
  | some (.map _ _), .mp none => some (.i .i64 (0 : Nat))
  | some (.map _ _), .mp (some k) => match get (.h k 0) with
    | some (.mp es) => some (.i .i64 (es.length : Nat))
    | _ => none
  | some .string, .s s => some (.i .i64 (s.size : Nat))
  | some (.slice _), .vs _ _ rows => some (.i .i64 (rows.length : Nat))
  | some (.slice _), .rs _ _ _ len _ => some (.i .i64 (len : Nat))
  | some (.array n _), _ => some (.i .i64 (n : Nat))
  | _, _ => none

def nextA (get : Ref → Option AO) : AV → Res
  | .ptr k g 0 => match get (.h k g) with
    | some (.sit s pos) => if pos < s.size then
        some (.tup [.b true, .i .i64 (pos : Nat), .i .i32 (Utf8.decode s pos).1], [(.h k g, some (.sit s (pos + (Utf8.decode s pos).2)))])
      else ret (.tup [.b false])
    | _ => none
  | _ => none

def mmA (isMax : Bool) : AV → AV → Option AV
  | .i k x, .i _ y => some (.i k (if isMax then (if y > x then y else x) else (if y < x then y else x)))
  | _, _ => none

/-- Are two keys one? -/
def sameA : TypeDesc → AV → AV → Option Bool
  | .int _, .i k a, .i k' b => if k = k' then some (a == b) else none
  | .string, .s a, .s b => some (a == b)
  | _, _, _ => none
def findA (d : TypeDesc) (x : AV) : List (AV × AV) → Nat → Option (Option (Nat × AV))
  | [], _ => some none
  | e :: es, i => match sameA d x e.1 with
    | some true => some (some (i, e.2))
    | some false => findA d x es (i + 1)
    | none => none
def keyD : TypeDesc → Bool
  | .int _ | .string => true
  | _ => false
def mapOf (get : Ref → Option AO) : AV → Option (List (AV × AV))
  | .mp none => some []
  | .mp (some k) => match get (.h k 0) with
    | some (.mp es) => some es
    | _ => none
  | _ => none
def zeroAV (t : TypeId) : Option AV := ((P.info? t).bind (·.zero)).map ofC
def lookupA (get : Ref → Option AO) (t : TypeId) (x k : AV) (ok : Bool) : Option AV :=
  match P.underlying t with
  | some (.map kt et) => match P.underlying kt, zeroAV P et, mapOf get x with
    | some d, some z, some es => if keyD d then match findA d k es 0 with
        | some (some (_, v)) => if v.mv then some (if ok then .tup [v, .b true] else v) else none
        | some none => if z.mv then some (if ok then .tup [z, .b false] else z) else none
        | none => none
      else none
    | _, _, _ => none
  | _ => none
def updateA (get : Ref → Option AO) (t : TypeId) (m k v : AV) : Option Wr :=
  match P.underlying t, m with
  | some (.map kt _), .mp (some n) => match P.underlying kt, get (.h n 0) with
    | some d, some (.mp es) => if keyD d ∧ v.mv then match findA d k es 0 with
        | some (some (i, _)) => some (.h n 0, some (.mp (es.set i (k, v))))
        | some none => some (.h n 0, some (.mp (es ++ [(k, v)])))
        | none => none
      else none
    | _, _ => none
  | _, _ => none

def deleteA (get : Ref → Option AO) (t : TypeId) (m k : AV) : Option Wr :=
  match P.underlying t, m with
  | some (.map kt _), .mp (some n) => match P.underlying kt, get (.h n 0) with
    | some d, some (.mp es) => if keyD d then match findA d k es 0 with
        | some (some (i, _)) => some (.h n 0, some (.mp (es.eraseIdx i)))
        | some none => some (.h n 0, some (.mp es))
        | none => none
      else none
    | _, _ => none
  | _, _ => none

def builtinA (get : Ref → Option AO) (b : Builtin) (argTypes : Array TypeId) (args : List AV) (n : Nat) : Res :=
  match b, argTypes.toList, args with
  | .len, [t], [x] => (lenA P get t x).bind ret
  | .append, [t, tx], [s, x] => appendA P get t tx s x n
  | .max, _, [x, y] => (mmA true x y).bind ret
  | .min, _, [x, y] => (mmA false x y).bind ret
  | .delete, [t, _], [m, k] => (deleteA P get t m k).map fun w => (.tup [], [w])
  | _, _, _ => none

/-- One operation that calls no function. ρ: the operands; n: the number of a new object; loc: is that slot's object the frame's own? -/
def stepA (get : Ref → Option AO) (ρ : Operand → AV) (n : Nat) (loc : Nat → Bool) (o : Oper) : Res :=
  match o.op with
  | .move x | .assign x => if (ρ x).mv then ret (ρ x) else none
  | .pick c a b => match ρ c with
    | .b true => if (ρ a).mv then ret (ρ a) else none
    | .b false => if (ρ b).mv then ret (ρ b) else none
    | _ => none
  | .alloc t => match zeroOf P t, o.dst with
    | some z, some d => if z.all AV.okc then (if loc d then some (.lp d n 0, [(.l d n, some (.cells z))]) else some (.ptr n 0 0, [(.h n 0, some (.cells z))])) else none
    | _, _ => none
  | .box _ x => match o.dst with
    | some d => if (ρ x).cells.all AV.okc then (if loc d then some (.lp d n 0, [(.l d n, some (.cells (ρ x).cells))]) else some (.ptr n 0 0, [(.h n 0, some (.cells (ρ x).cells))])) else none
    | none => none
  | .build t parts => (buildA P t (parts.toList.map fun p => (p.1, ρ p.2))).bind ret
  | .buildSlice t len parts => match elemOf P t with
    | some e => match szOf P e with
      | some sz => if 0 < sz ∧ len * sz ≤ 2 ^ 20 ∧ parts.size = len ∧ (zsz P e).isSome then match rowsBuilt sz 0 (parts.toList.map fun p => (p.1, ρ p.2)) with
          | some rows => some (.rs n 0 0 len sz, [(.h n 0, some (.arr sz rows))])
          | none => none
        else none
      | none => none
    | none => none
  | .load t a => (loadA P get t (ρ a)).bind ret
  | .store t a x => (storeA P get t (ρ a) (ρ x)).map fun w => (.tup [], [w])
  | .nilCheck x => match ρ x with
    | .ptr k g o => ret (.ptr k g o)
    | .pe k g i o sz => ret (.pe k g i o sz)
    | .vp cs => ret (.vp cs)
    | .fn f c => ret (.fn f c)
    | _ => none
  | .binOp op t x y _ => (binA P op t (ρ x) (ρ y)).bind ret
  | .unOp op _ x => (unA op (ρ x)).bind ret
  | .convert src dst x => convA P get src dst (ρ x) n
  | .makeFunc fnn first cap => match fnn with
    | .func f => if first.size = 0 ∧ (cap.toList.map ρ).all AV.okc then ret (.fn f (cap.toList.map ρ)) else none
    | _ => none
  | .makeMap _ res => match res with
    | none => some (.mp (some n), [(.h n 0, some (.mp []))])
    | some _ => none
  | .makeSlice t len cap => makeSliceA P t (ρ len) (ρ cap) n
  | .slice t x low high max => sliceA P get t (ρ x) (low.map ρ) (high.map ρ) (max.map ρ)
  | .fieldAddr t x f => match fieldOff P t f, ρ x with
    | some off, .lp d m o => ret (.lp d m (o + off))
    | some off, .ptr k g o => ret (.ptr k g (o + off))
    | some off, .pe k g i o sz => ret (.pe k g i (o + off) sz)
    | some off, .vp cs => ret (.vp (cs.drop off))
    | _, _ => none
  | .field t x f => match P.underlying t, ρ x with
    | some (.struct fields), .agg cs => match fields[f]? with
      | some fd => (ldA P fd.type cs fd.offset).bind ret
      | none => none
    | _, _ => none
  | .indexAddr t x i => (indexAddrA P t (ρ x) (ρ i)).bind ret
  | .index t x i => (indexA P t (ρ x) (ρ i)).bind ret
  | .range t x => match P.underlying t, ρ x with
    | some .string, .s s => some (.ptr n 0 0, [(.h n 0, some (.sit s 0))])
    | _, _ => none
  | .next it isS => if isS then nextA get (ρ it) else none
  | .extract t i => match ρ t with
    | .tup xs => (xs[i]?).bind ret
    | _ => none
  | .call c => match c.callee with
    | .builtin b => builtinA P get b c.argTypes (c.args.toList.map ρ) n
    | _ => none
  | .lookup t x k ok => (lookupA P get t (ρ x) (ρ k) ok).bind ret
  | .mapUpdate t m k x => (updateA P get t (ρ m) (ρ k) (ρ x)).map fun w => (.tup [], [w])
  | _ => none

end

/- ---------------------------------------------------------------- the order inside a region -/

def putH (l : List (Nat × (Nat × AO))) (k : Nat) : Option (Nat × AO) → List (Nat × (Nat × AO))
  | some v => up l k v
  | none => rm l k
open Classical in
noncomputable def mergeK (h0 h acc : List (Nat × (Nat × AO))) (k : Nat) : List (Nat × (Nat × AO)) := if lk h0 k = lk h k then acc else putH acc k (lk h k)
/-- A heap that has turned as from one to another. -/
noncomputable def mergeH (h0 h x : List (Nat × (Nat × AO))) : List (Nat × (Nat × AO)) := ((h0 ++ h).map (·.1)).foldl (mergeK h0 h) x
/-- Is an object the same in both? -/
noncomputable def sameAt (h : List (Nat × (Nat × AO)) × List (Nat × (Nat × AO))) : Ref → Bool
  | .l _ _ => true
  | .h k _ => open Classical in decide (lk h.1 k = lk h.2 k)

/-- What an operation did. hp: of a call on the whole heap: the heap ahead of it and behind it. rd: what it read; none: the whole heap. -/
structure Eff where
  dst : Option Nat
  v : AV
  wr : List Wr
  hp : Option (List (Nat × (Nat × AO)) × List (Nat × (Nat × AO)))
  rd : Option (List Ref)

noncomputable def St.app (st : St) (e : Eff) : St := open Classical in
  let st1 := match e.hp with
    | some h => { st with hp := if st.hp = h.1 then h.2 else mergeH h.1 h.2 st.hp }
    | none => st.wrs e.wr
  match e.dst with
  | some d => { st1 with env := up st1.env d e.v }
  | none => st1

def Ref.key : Ref → Bool × Nat
  | .l d _ => (true, d)
  | .h k _ => (false, k)

def AV.refs0 : AV → List Ref
  | .rs k g _ _ _ | .ptr k g _ | .pe k g _ _ _ => [.h k g]
  | .lp d n _ => [.l d n]
  | .mp (some k) => [.h k 0]
  | _ => []

/-- What an operation that is no call of a function looks at. -/
def rdA (ρ : Operand → AV) (o : Oper) : List Ref :=
  match o.op with
  | .load _ a | .store _ a _ => (ρ a).refs0
  | .slice _ x _ _ _ | .convert _ _ x | .lookup _ x _ _ | .mapUpdate _ x _ _ => (ρ x).refs0
  | .next it _ => (ρ it).refs0
  | .call c => c.args.toList.flatMap fun x => (ρ x).refs0
  | _ => []

def guardA (ops : Array Oper) (env : List (Nat × AV)) (o : Oper) : Option Bool :=
  match o.guard with
  | none => some true
  | some (j, want) => match (ops[j]?).bind (·.dst) with
    | none => none
    | some t => match lk env t with
      | some (.b c) => some (c == want)
      | some (.tup []) => some false
      | _ => none

/-- The binding edges of each operation, through all between: for operation i, its list. -/
def befOf (ops : List Oper) : List (List Nat) :=
  ops.foldl (fun acc o => acc ++ [o.after.toList.flatMap fun e => if Region.binds .any e then e.on :: acc.getD e.on [] else []]) []

def tmpsOf (ops : Array Oper) (o : Oper) : List Nat :=
  (o.op.operands.toList.filterMap fun | .tmp t => some t | _ => none) ++
  (match o.guard with
   | some (g, _) => ((ops[g]?).bind (·.dst)).toList
   | none => [])

/-- Two operations, i ahead of j, of which neither must be ahead of the other one: they name nothing of one another. -/
def apartA (ops : Array Oper) (x y : Oper) : Bool :=
  (match x.dst with
   | some d => !(tmpsOf ops y).contains d
   | none => true) &&
  (match y.dst with
   | some d => !(tmpsOf ops x).contains d
   | none => true)

def pairsOk (f : Nat → Nat → Bool) (n : Nat) : Bool := (List.range n).all fun j => (List.range j).all fun i => f i j

def statOk (ops : Array Oper) (bef : List (List Nat)) : Bool :=
  (List.range ops.size).all (fun i => ((ops.getD i default).after.all fun e => !Region.binds .any e || decide (e.on < i))) &&
  pairsOk (fun i j =>
    (match (ops.getD i default).dst, (ops.getD j default).dst with
     | some d, some e => d != e
     | _, _ => true) &&
    ((bef.getD j []).contains i || apartA ops (ops.getD i default) (ops.getD j default))) ops.size

/-- What one writes the other one neither reads nor writes. -/
def Eff.wkeys (e : Eff) : List (Bool × Nat) := e.wr.map (·.1.key)
noncomputable def Eff.clear (e f : Eff) : Bool :=
  match e.hp with
  | some h => (match f.hp with | some _ => false | none => true) && (f.wkeys.all (·.1)) && (match f.rd with | some l => l.all (sameAt h) | none => false)
  | none => (e.wkeys.all fun k => !f.wkeys.contains k && (f.hp.isNone || k.1) && (match f.rd with | some l => !(l.map Ref.key).contains k | none => k.1))
noncomputable def Eff.apart (e f : Eff) : Bool := e.clear f && f.clear e

noncomputable def dynOk (bef : List (List Nat)) (es : List Eff) : Bool :=
  pairsOk (fun i j => (bef.getD j []).contains i || match es[i]?, es[j]? with
    | some e, some f => e.apart f
    | _, _ => false) es.length

/- ---------------------------------------------------------------- freezing -/

def mapO {α β : Type} (f : α → Option β) : List α → Option (List β)
  | [] => some []
  | x :: r => match f x with
    | some y => (mapO f r).map (y :: ·)
    | none => none

/-- A value as it is now, without any object: what it leads to is told. -/
def frz (get : Ref → Option AO) : Nat → AV → Option AV
  | 0, _ => none
  | n + 1, v => match v with
    | .b x => some (.b x) | .i k x => some (.i k x) | .s x => some (.s x) | .np => some .np | .nfn => some .nfn | .mp none => some (.mp none)
    | .vs a c d => some (.vs a c d) | .vp c => some (.vp c)
    | .agg cs => (mapO (frz get n) cs).map .agg
    | .tup cs => (mapO (frz get n) cs).map .tup
    | .fn f cs => (mapO (frz get n) cs).map (.fn f)
    | .rs k g i0 len sz => match rowsOf get (.rs k g i0 len sz) with
      | some rows => (mapO (mapO (frz get n)) rows).map (.vs false sz)
      | none => none
    | .ptr k g o => match get (.h k g) with
      | some (.cells cs) => (mapO (frz get n) (cs.drop o)).map .vp
      | _ => none
    | .pe k g i o sz => match get (.h k g) with
      | some (.arr sz' rows) => if sz' = sz then match rows[i]? with
        | some r => (mapO (frz get n) (r.drop o)).map .vp
        | none => none
        else none
      | _ => none
    | _ => none

/-- Does a value lead to no object? -/
def rf1 : AV → Bool
  | .b _ | .i _ _ | .s _ | .np | .nfn | .mp none | .vs _ _ _ | .vp _ => true
  | .fn _ cs => cs.isEmpty
  | _ => false
def rf : AV → Bool
  | .agg cs => cs.all rf1
  | v => rf1 v
/-- Is a value plain through and through? -/
def fl1 : AV → Bool
  | .b _ | .i _ _ | .s _ => true
  | _ => false
def fl : AV → Bool
  | .agg cs => cs.all fl1
  | .tup cs => cs.all fl1
  | v => fl1 v

def frzDepth : Nat := 12

/-- Does a cell hold nothing that is told of immutable blocks? -/
def nov1 : AV → Bool
  | .b _ | .i _ _ | .s _ | .np | .nfn | .mp _ | .rs _ _ _ _ _ | .ptr _ _ _ | .pe _ _ _ _ _ => true
  | .vs _ _ rows => rows.isEmpty
  | .fn _ cs => cs.isEmpty
  | _ => false
def nov : AV → Bool
  | .agg cs => cs.all nov1
  | .tup cs => cs.all nov1
  | v => nov1 v
def novO : AO → Bool
  | .cells cs => cs.all nov1
  | .arr _ rows => rows.all (·.all nov1)
  | .mp es => es.all fun e => nov1 e.1 && nov1 e.2
  | .sit _ _ => true

/- ---------------------------------------------------------------- code -/

structure Cfg where
  P : Program
  /-- Is a slot's object the frame's own? -/
  loc : FuncId → Nat → Bool
  /-- Which slots are wanted behind a region. -/
  live : FuncId → Nat → List Nat
  /-- Is a function called with what its arguments are now, its own objects forgotten behind it? -/
  pure : FuncId → Bool
  /-- Functions that are told by a law of their own. -/
  intr : FuncId → Option (List AV → Option AV)
  /-- Functions on the heap that are told by a law of their own. -/
  hint : FuncId → Option (List AV → List (Nat × (Nat × AO)) → Nat → Option (AV × List (Nat × (Nat × AO)) × Nat)) := fun _ => none
  /-- Is a function called with what its arguments are now, what it makes laid beside? -/
  fresh : FuncId → Bool := fun _ => false
  /-- Does a function leave the heap as it is? -/
  ro : FuncId → Bool := fun _ => false
  /-- Is a function always called on the whole heap? -/
  heap : FuncId → Bool := fun _ => false

inductive Ex where
  | normal | exit (id : Nat) | ret
  deriving DecidableEq

abbrev Hp := List (Nat × (Nat × AO))

/-- What a call comes to: its result, the heap, the next number. -/
abbrev CallT := FuncId → List AV → Hp → Nat → Option (AV × Hp × Nat)

/-- The heap alone. -/
def hget (hp : Hp) : Ref → Option AO
  | .h k g => lkg hp k g
  | .l _ _ => none

section
variable (C : Cfg)

/-- A call in a region: the effect, and the next number. -/
def goCallP (p : Bool) (call : CallT) (st : St) (nx : Nat) (dst : Option Nat) (f : FuncId) (args : List AV) : Option (Eff × Nat) :=
  match C.intr f with
  | some h => (h args).map fun r => (⟨dst, r, [], none, some []⟩, nx)
  | none =>
    if p then
      if args.all rf then
        match call f args [] 0 with
        | some (r, hp, _) => (frz (hget hp) frzDepth r).map fun r' => (⟨dst, r', [], none, some []⟩, nx)
        | none => none
      else match mapO (frz st.get frzDepth) args with
        | some args' => match call f args' [] 0 with
          | some (r, _, _) => if fl r then some (⟨dst, r, [], none, none⟩, nx) else none
          | none => none
        | none => none
    else if args.all rf then
      match call f args [] nx with
      | some (r, hp, nx') => some (⟨dst, r, hp.reverse.map (fun x => (.h x.1 x.2.1, some x.2.2)), none, some []⟩, nx')
      | none => none
    else if args.all AV.mv then
      match call f args st.hp nx with
      | some (r, hp, nx') => some (⟨dst, r, [], some (st.hp, hp), none⟩, nx')
      | none => none
    else none

/-- A call with what its arguments are now, whose own objects are laid beside. -/
def goCallF (call : CallT) (st : St) (nx : Nat) (dst : Option Nat) (f : FuncId) (args : List AV) : Option (Eff × Nat) :=
  match mapO (frz st.get frzDepth) args with
  | some args' => match call f args' [] nx with
    | some (r, hp, nx') => if (nov r && hp.all fun x => novO x.2.2) = true then some (⟨dst, r, hp.reverse.map (fun x => (.h x.1 x.2.1, some x.2.2)), none, none⟩, nx') else none
    | none => none
  | none => none

open Classical in
/-- A call that leaves the heap as it is. -/
noncomputable def goCallR (call : CallT) (st : St) (nx : Nat) (dst : Option Nat) (f : FuncId) (args : List AV) : Option (Eff × Nat) :=
  if args.all rf then none
  else if args.all AV.mv then
    match call f args st.hp nx with
    | some (r, hp, nx') => if hp = st.hp then some (⟨dst, r, [], none, none⟩, nx') else none
    | none => none
  else none

/-- A call on the whole heap, whatever its arguments are. -/
def goCallH (call : CallT) (st : St) (nx : Nat) (dst : Option Nat) (f : FuncId) (args : List AV) : Option (Eff × Nat) :=
  if args.all AV.mv then
    match call f args st.hp nx with
    | some (r, hp, nx') => some (⟨dst, r, [], some (st.hp, hp), none⟩, nx')
    | none => none
  else none

/-- A call: with what the arguments are now, where that does; else on the heap. -/
noncomputable def goCall (call : CallT) (st : St) (nx : Nat) (dst : Option Nat) (f : FuncId) (args : List AV) : Option (Eff × Nat) :=
  if C.heap f && (C.intr f).isNone then goCallH call st nx dst f args
  else if C.fresh f && (C.intr f).isNone then (match goCallF call st nx dst f args with
    | some x => some x
    | none => goCallP C false call st nx dst f args)
  else if C.ro f && (C.intr f).isNone then (match goCallR call st nx dst f args with
    | some x => some x
    | none => goCallP C false call st nx dst f args)
  else match goCallP C (C.pure f) call st nx dst f args with
  | some x => some x
  | none => if C.pure f then goCallP C false call st nx dst f args else none

noncomputable def opA (call : CallT) (f : FuncId) (ops : Array Oper) (base : Nat) (st : St) (nx i : Nat) (o : Oper) : Option (Eff × Nat) :=
  match guardA ops st.env o with
  | none => none
  | some false => some (⟨o.dst, .tup [], [], none, some []⟩, nx)
  | some true => match o.op with
    | .call { callee := .value g, args := args, .. } => match ev st.env g with
      | .fn h cap => goCall C call st nx o.dst h (args.toList.map (ev st.env) ++ cap)
      | _ => none
    | _ => (stepA C.P st.get (ev st.env) (base + i) (C.loc f) o).map fun r => (⟨o.dst, r.1, r.2, none, some (rdA (ev st.env) o)⟩, nx)

noncomputable def opsA (call : CallT) (f : FuncId) (ops : Array Oper) (base : Nat) : List Oper → Nat → St → Nat → List Eff → Option (St × Nat × List Eff)
  | [], _, st, nx, acc => some (st, nx, acc.reverse)
  | o :: rest, i, st, nx, acc => match opA C call f ops base st nx i o with
    | some (e, nx') => opsA call f ops base rest (i + 1) (st.app e) nx' (e :: acc)
    | none => none

def restrict {α : Type} (live : List Nat) (l : List (Nat × α)) : List (Nat × α) := live.filterMap fun d => (lk l d).map fun v => (d, v)

noncomputable def regionA (call : CallT) (f : FuncId) (id : Nat) (ops : Array Oper) (draw : Bool) (st : St) : Option St :=
  match opsA C call f ops st.nx ops.toList 0 st (st.nx + ops.size) [] with
  | none => none
  | some (st', nx, es) =>
    if !draw || (statOk ops (befOf ops.toList) && dynOk (befOf ops.toList) es) then
      some { env := restrict (C.live f id) st'.env, loc := restrict (C.live f id) st'.loc, hp := st'.hp, nx := nx }
    else none

def loopA (body : St → Option (Ex × St)) : Nat → St → Option (Ex × St)
  | 0, _ => none
  | n + 1, st => match body st with
    | some (.normal, st') => loopA body n st'
    | r => r

noncomputable def codeA (call : CallT) (k : Nat) (f : FuncId) : Code → St → Option (Ex × St)
  | .skip, st => some (.normal, st)
  | .region id ops draw, st => (regionA C call f id ops draw st).map fun st' => (.normal, st')
  | .seq a b, st => match codeA call k f a st with
    | some (.normal, st') => codeA call k f b st'
    | r => r
  | .cond c a b, st => match ev st.env c with
    | .b true => codeA call k f a st
    | .b false => codeA call k f b st
    | _ => none
  | .block id a, st => match codeA call k f a st with
    | some (.exit j, st') => if j = id then some (.normal, st') else some (.exit j, st')
    | r => r
  | .loop a, st => loopA (codeA call k f a) k st
  | .exit id, st => some (.exit id, st)
  | .ret, st => some (.ret, st)
  | _, _ => none

def resA (st : St) : List ResultVar → Option (List AV)
  | [] => some []
  | .tmp t :: r => if (ev st.env (.tmp t)).mv then (resA st r).map (ev st.env (.tmp t) :: ·) else none
  | .cell a t :: r => match loadA C.P st.get t (ev st.env (.tmp a)) with
    | some v => (resA st r).map (v :: ·)
    | none => none

def one : List AV → AV
  | [v] => v
  | l => .tup l

def enterA (args : List AV) : Nat → List (Nat × AV)
  | j => match args with
    | [] => []
    | x :: r => (j, x) :: enterA r (j + 1)

noncomputable def runA (call : CallT) (k : Nat) : CallT := fun f args hp nx =>
  match C.P.funcs[f]? with
  | some fn => match fn.body with
    | some c =>
      if args.length ≤ fn.ntmps then
        match codeA C call k f c { env := enterA args 0, loc := [], hp := hp, nx := nx } with
        | some (.normal, st) | some (.ret, st) => (resA C st fn.results.toList).map fun l => (one l, st.hp, st.nx)
        | _ => none
      else none
    | none => none
  | none => none

/-- A call of depth n, each loop of k rounds at most. -/
noncomputable def callA (k : Nat) : Nat → CallT
  | 0 => fun _ _ _ _ => none
  | n + 1 => fun f args hp nx => match C.hint f with
    | some h => h args hp nx
    | none => runA C (callA k n) k f args hp nx

end
end Ab
end Go.Proofs.YtidoflgcblglbaaDoor

/-
  DERIVED. THE RELATION BETWEEN THE ABSTRACT INTERPRETER's VALUES AND THE MODEL's: what an abstract value says of a value in a world; objects; that it is kept where the world goes on.
  Conditions: none of a program's.
-/
namespace Go.Proofs.YtidoflgcblglbaaDoor
namespace Ab

abbrev Blk := Nat × Nat
abbrev BMap := Ref → Option Blk

abbrev cellV (v : Value) : Bool := v.oneCell'

def csz (w : World) (b : Nat) : Nat := match w.heap[b]? with
  | some (.cells c _ _) => c.size
  | _ => 0

def noB : BMap := fun _ => none

inductive RV (I : Nat → Prop) (w : World) : BMap → Value → AV → Prop where
  | undef (β : BMap) (v : Value) : RV I w β v .undef
  | b (β : BMap) (x : Bool) : RV I w β (.bool x) (.b x)
  | i (β : BMap) (k : IntKind) (n : Int) : RV I w β (.int k n) (.i k n)
  | s (β : BMap) (x : ByteArray) : RV I w β (.string x) (.s x)
  | np (β : BMap) : RV I w β (.pointer none) .np
  | nfn (β : BMap) : RV I w β .nilFunc .nfn
  | mpn (β : BMap) : RV I w β (.map none) (.mp none)
  | agg (β : BMap) (vs : Array Value) (cs : List AV) (hl : vs.size = cs.length) (hc : ∀ (j : Nat) (v : Value), vs[j]? = some v → cellV v = true)
      (h : ∀ (j : Nat) (v : Value) (c : AV), vs[j]? = some v → cs[j]? = some c → RV I w β v c) : RV I w β (.agg vs) (.agg cs)
  | tup (β : BMap) (vs : Array Value) (cs : List AV) (hl : vs.size = cs.length)
      (h : ∀ (j : Nat) (v : Value) (c : AV), vs[j]? = some v → cs[j]? = some c → RV I w β v c) : RV I w β (.tuple vs) (.tup cs)
  | vsn (β : BMap) (sz : Nat) : RV I w β (.slice none 0 0) (.vs true sz [])
  | vs0 (β : BMap) (a : Addr) (cap sz : Nat) : RV I w β (.slice (some a) 0 cap) (.vs false sz [])
  | vs (β : BMap) (b o len cap sz : Nat) (rows : List (List AV)) (f : Nat → Nat → Value) (hb : I b) (hr : ∀ r ∈ rows, r.length = sz) (hlen : rows.length = len) (hcap : len ≤ cap)
      (hc : ∀ (i j : Nat) (r : List AV) (c : AV), rows[i]? = some r → r[j]? = some c → w.cell? ⟨b, o + i * sz + j, none⟩ = some (f i j) ∧ cellV (f i j) = true)
      (h : ∀ (i j : Nat) (r : List AV) (c : AV), rows[i]? = some r → r[j]? = some c → RV I w noB (f i j) c) : RV I w β (.slice (some ⟨b, o, none⟩) len cap) (.vs false sz rows)
  | rs (β : BMap) (k g i0 len sz b o cap : Nat) (a : Addr) (hb : β (.h k g) = some (b, o)) (hcap : len ≤ cap) (hsz : o + (i0 + cap) * sz ≤ csz w b) (ha : cap = 0 ∨ a = ⟨b, o + i0 * sz, none⟩) :
      RV I w β (.slice (some a) len cap) (.rs k g i0 len sz)
  | ptr (β : BMap) (k g p b o : Nat) (hb : β (.h k g) = some (b, o)) : RV I w β (.pointer (some ⟨b, o + p, none⟩)) (.ptr k g p)
  | pe (β : BMap) (k g i p sz b o : Nat) (hb : β (.h k g) = some (b, o)) : RV I w β (.pointer (some ⟨b, o + i * sz + p, none⟩)) (.pe k g i p sz)
  | lp (β : BMap) (d n p b o : Nat) (hb : β (.l d n) = some (b, o)) : RV I w β (.pointer (some ⟨b, o + p, none⟩)) (.lp d n p)
  | vp (β : BMap) (b o : Nat) (cs : List AV) (f : Nat → Value) (hb : I b)
      (hc : ∀ (j : Nat) (c : AV), cs[j]? = some c → w.cell? ⟨b, o + j, none⟩ = some (f j) ∧ cellV (f j) = true)
      (h : ∀ (j : Nat) (c : AV), cs[j]? = some c → RV I w noB (f j) c) : RV I w β (.pointer (some ⟨b, o, none⟩)) (.vp cs)
  | fn (β : BMap) (f : FuncId) (vs : Array Value) (cs : List AV) (hl : vs.size = cs.length)
      (h : ∀ (j : Nat) (v : Value) (c : AV), vs[j]? = some v → cs[j]? = some c → RV I w β v c) : RV I w β (.func (.func f) #[] vs) (.fn f cs)
  | mp (β : BMap) (k r o : Nat) (hb : β (.h k 0) = some (r, o)) : RV I w β (.map (some r)) (.mp (some k))

theorem cell?_of_heap {w w' : World} {a : Addr} (h : w'.heap[a.block]? = w.heap[a.block]?) : w'.cell? a = w.cell? a := by
  unfold World.cell?; rw [h]

/-- What was told of a value holds on. -/
theorem RV.mono {I I' : Nat → Prop} {w w' : World} {β β' : BMap} {v : Value} {x : AV} (h : RV I w β v x) (hI : ∀ b, I b → I' b)
    (hw : ∀ b, I b → w'.heap[b]? = w.heap[b]?) (hβ : ∀ r p, β r = some p → β' r = some p) (hs : ∀ b, csz w b ≤ csz w' b) : RV I' w' β' v x := by
  induction h generalizing β' with
  | undef => exact .undef _ _
  | b => exact .b _ _
  | i => exact .i _ _ _
  | s => exact .s _ _
  | np => exact .np _
  | nfn => exact .nfn _
  | mpn => exact .mpn _
  | agg β vs cs hl hc _ ih => exact .agg _ _ _ hl hc fun j v c h1 h2 => ih j v c h1 h2 hβ
  | tup β vs cs hl _ ih => exact .tup _ _ _ hl fun j v c h1 h2 => ih j v c h1 h2 hβ
  | vsn => exact .vsn _ _
  | vs0 => exact .vs0 _ _ _ _
  | vs β b o len cap sz rows f hb hr hlen hcap hc _ ih =>
    exact .vs _ b o len cap sz rows f (hI b hb) hr hlen hcap (fun i j r c h1 h2 => ⟨(cell?_of_heap (hw b hb)).trans (hc i j r c h1 h2).1, (hc i j r c h1 h2).2⟩)
      fun i j r c h1 h2 => ih i j r c h1 h2 fun _ _ e => by cases e
  | rs β k g i0 len sz b o cap a hb hcap hsz ha => exact .rs _ k g i0 len sz b o cap a (hβ _ _ hb) hcap (Nat.le_trans hsz (hs b)) ha
  | ptr β k g p b o hb => exact .ptr _ k g p b o (hβ _ _ hb)
  | pe β k g i p sz b o hb => exact .pe _ k g i p sz b o (hβ _ _ hb)
  | lp β d n p b o hb => exact .lp _ d n p b o (hβ _ _ hb)
  | vp β b o cs f hb hc _ ih =>
    exact .vp _ b o cs f (hI b hb) (fun j c h1 => ⟨(cell?_of_heap (hw b hb)).trans (hc j c h1).1, (hc j c h1).2⟩) fun j c h1 => ih j c h1 fun _ _ e => by cases e
  | fn β f vs cs hl _ ih => exact .fn _ f vs cs hl fun j v c h1 h2 => ih j v c h1 h2 hβ
  | mp β k r o hb => exact .mp _ k r o (hβ _ _ hb)

def unfz (c : Array Value) (fr : Nat × Nat) : Prop := fr.1 = fr.2 ∨ c.size ≤ fr.1
theorem unfz.at {c : Array Value} {fr : Nat × Nat} (h : unfz c fr) (j : Nat) (hj : j < c.size) : (decide (fr.1 ≤ j) && decide (j < fr.2)) = false := by
  rcases h with h | h <;> simp <;> omega

/-- A map's stamps: each below the clock, no two the same. -/
def stampsOk (mes : Array MapEntry) (clock : Nat) : Prop := (∀ x ∈ mes.toList, x.born < clock) ∧ (mes.toList.map (·.born)).Nodup
/-- What an abstract object says of a block. -/
def OR (I : Nat → Prop) (w : World) (β : BMap) (p : Blk) : AO → Prop
  | .cells cs => ∃ c e fr, w.heap[p.1]? = some (.cells c e fr) ∧ p.2 + cs.length ≤ c.size ∧ unfz c fr ∧
      ∀ j x, cs[j]? = some x → ∃ v, c[p.2 + j]? = some v ∧ cellV v = true ∧ RV I w β v x
  | .arr sz rows => 0 < sz ∧ (∀ r ∈ rows, r.length = sz) ∧ ∃ c e fr, w.heap[p.1]? = some (.cells c e fr) ∧ p.2 + rows.length * sz ≤ c.size ∧ unfz c fr ∧
      ∀ i j r x, rows[i]? = some r → r[j]? = some x → ∃ v, c[p.2 + i * sz + j]? = some v ∧ cellV v = true ∧ RV I w β v x
  | .mp es => ∃ mes clock, w.heap[p.1]? = some (.map mes clock) ∧ mes.size = es.length ∧ stampsOk mes clock ∧
      ∀ (j : Nat) (m : MapEntry) (e : AV × AV), mes[j]? = some m → es[j]? = some e → RV I w β m.key e.1 ∧ RV I w β m.val e.2
  | .sit s pos => p.2 = 0 ∧ w.heap[p.1]? = some (.stringIter s pos)

theorem OR.mono {I I' : Nat → Prop} {w w' : World} {β β' : BMap} {p : Blk} {o : AO} (h : OR I w β p o) (hp : w'.heap[p.1]? = w.heap[p.1]?) (hI : ∀ b, I b → I' b)
    (hw : ∀ b, I b → w'.heap[b]? = w.heap[b]?) (hβ : ∀ r p, β r = some p → β' r = some p) (hs : ∀ b, csz w b ≤ csz w' b) : OR I' w' β' p o := by
  cases o with
  | cells cs =>
    obtain ⟨c, e, fr, h1, h2, h3, h4⟩ := h
    exact ⟨c, e, fr, hp.trans h1, h2, h3, fun j x hx => let ⟨v, a, b, r⟩ := h4 j x hx; ⟨v, a, b, r.mono hI hw hβ hs⟩⟩
  | arr sz rows =>
    obtain ⟨h0, h0', c, e, fr, h1, h2, h3, h4⟩ := h
    exact ⟨h0, h0', c, e, fr, hp.trans h1, h2, h3, fun i j r x hr hx => let ⟨v, a, b, q⟩ := h4 i j r x hr hx; ⟨v, a, b, q.mono hI hw hβ hs⟩⟩
  | mp es =>
    obtain ⟨mes, clock, h1, h2, hst, h3⟩ := h
    exact ⟨mes, clock, hp.trans h1, h2, hst, fun j m e hm he => ⟨(h3 j m e hm he).1.mono hI hw hβ hs, (h3 j m e hm he).2.mono hI hw hβ hs⟩⟩
  | sit s pos => exact ⟨h.1, hp.trans h.2⟩

abbrev GetF := Ref → Option AO

/-- The number of an object. -/
def Ref.num : Ref → Nat
  | .l _ n => n
  | .h k _ => k

/-- A block that the abstract heap holds. -/
def Own (get : GetF) (β : BMap) (b : Nat) : Prop := ∃ r o p, get r = some o ∧ β r = some p ∧ p.1 = b

/-- What else is known of a world: of blocks that stay. -/
class WX where
  X : (Nat → Prop) → World → Prop
  stable : ∀ {I I' : Nat → Prop} {w w' : World}, (∀ b, I b → I' b) → (∀ b, I b → w'.heap[b]? = w.heap[b]?) → X I w → X I' w'

variable [WX]

structure Sim (I : Nat → Prop) (β : BMap) (get : GetF) (w : World) : Prop where
  obj : ∀ r o, get r = some o → ∃ p, β r = some p ∧ OR I w β p o
  inj : ∀ r r' o o' p p', get r = some o → get r' = some o' → β r = some p → β r' = some p' → p.1 = p'.1 → r = r'
  imm : ∀ b, I b → b < w.heap.size ∧ ¬ Own get β b
  gen : ∀ k g o, get (.h k g) = some o → ∀ g', g < g' → β (.h k g') = none
  wx : WX.X I w

/-- One world behind another: what is not held is as it was. -/
structure Keep (O : Nat → Prop) (w w' : World) : Prop where
  os : w'.os = w.os
  tape : w'.tape = w.tape
  output : w'.output = w.output
  size : w.heap.size ≤ w'.heap.size
  csz : ∀ b, csz w b ≤ csz w' b
  block : ∀ b, b < w.heap.size → ¬ O b → w'.heap[b]? = w.heap[b]?

theorem Keep.refl (O : Nat → Prop) (w : World) : Keep O w w := ⟨rfl, rfl, rfl, Nat.le_refl _, fun _ => Nat.le_refl _, fun _ _ _ => rfl⟩

theorem Keep.trans {O O' : Nat → Prop} {a b c : World} (h : Keep O a b) (k : Keep O' b c) (ho : ∀ x, O' x → O x ∨ a.heap.size ≤ x) : Keep O a c :=
  ⟨k.os.trans h.os, k.tape.trans h.tape, k.output.trans h.output, Nat.le_trans h.size k.size, fun x => Nat.le_trans (h.csz x) (k.csz x), fun x hx hn =>
    (k.block x (Nat.lt_of_lt_of_le hx h.size) fun h' => (ho x h').elim hn fun h'' => by omega).trans (h.block x hx hn)⟩

/-- What a step does: the immutable stays, the names stay, what is held comes from what was held or is new. -/
structure Step (I : Nat → Prop) (β : BMap) (get : GetF) (w : World) (I' : Nat → Prop) (β' : BMap) (get' : GetF) (w' : World) : Prop where
  hI : ∀ b, I b → I' b
  hβ : ∀ r p, β r = some p → β' r = some p
  keep : Keep (Own get β) w w'
  own : ∀ b, Own get' β' b → Own get β b ∨ w.heap.size ≤ b
  new : ∀ b, I' b → I b ∨ Own get β b ∨ w.heap.size ≤ b

theorem Step.refl (I : Nat → Prop) (β : BMap) (get : GetF) (w : World) : Step I β get w I β get w := ⟨fun _ h => h, fun _ _ h => h, .refl _ _, fun _ h => .inl h, fun _ h => .inl h⟩

theorem Step.trans {I0 I1 I2 : Nat → Prop} {β0 β1 β2 : BMap} {g0 g1 g2 : GetF} {w0 w1 w2 : World} (h : Step I0 β0 g0 w0 I1 β1 g1 w1) (k : Step I1 β1 g1 w1 I2 β2 g2 w2) :
    Step I0 β0 g0 w0 I2 β2 g2 w2 :=
  ⟨fun b x => k.hI b (h.hI b x), fun r p x => k.hβ r p (h.hβ r p x), h.keep.trans k.keep h.own, fun b x => (k.own b x).elim (h.own b) fun y => .inr (Nat.le_trans h.keep.size y),
    fun b x => (k.new b x).elim (h.new b) fun y => y.elim (fun z => .inr (h.own b z)) fun z => .inr (.inr (Nat.le_trans h.keep.size z))⟩

theorem Step.imm {I I' : Nat → Prop} {β β' : BMap} {get get' : GetF} {w w' : World} (h : Step I β get w I' β' get' w') (hs : Sim I β get w) (b : Nat) (hb : I b) : w'.heap[b]? = w.heap[b]? :=
  h.keep.block b (hs.imm b hb).1 (hs.imm b hb).2

theorem RV.step {I I' : Nat → Prop} {β β' : BMap} {get get' : GetF} {w w' : World} {v : Value} {x : AV} (h : RV I w β v x) (k : Step I β get w I' β' get' w') (hs : Sim I β get w) : RV I' w' β' v x :=
  h.mono k.hI (k.imm hs) k.hβ k.keep.csz

end Ab
end Go.Proofs.YtidoflgcblglbaaDoor
