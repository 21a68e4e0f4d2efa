/-
  DERIVED. FORMS and ROWS in plain Lean: what api.Table and api.Row hold, and what is wrong with one.
  Conditions: none of a program's.
-/
import Derived.Test.YtgkaidnfmkncmaaDoorFacts
import Derived.Test.YtgkaidnfmkncmaaDoorCg
import Derived.Test.YtgkaidnfmkncmaaDoorAbG
import Derived.Test.YtgkaidnfmkncmaaDoorN1
set_option linter.all false
namespace Go.Proofs.YtgkaidnfmkncmaaDoor
namespace Ab
open Go.Lib

def ints (l : List Int) : List (List AV) := l.map fun x => [.i .i64 x]
structure Val where
  t : Int
  n : Int
  s : ByteArray
def Val.row (v : Val) : List AV := [.i .i64 v.t, .i .i64 v.n, .s v.s]
structure Col where
  n : ByteArray
  t : Int
  m : Int
  nn : Bool
def Col.row (c : Col) : List AV := [.s c.n, .i .i64 c.t, .i .i64 c.m, .b c.nn]
structure Key where
  n : ByteArray
  z : Bool
  cs : List Int
  u : Bool
def Key.row (k : Key) : List AV := [.s k.n, .vs k.z 1 (ints k.cs), .b k.u]
/-- A form; zc, zk: are the lists nil? -/
structure Tab where
  n : ByteArray
  zc : Bool
  zk : Bool
  cols : List Col
  keys : List Key
  part : Int
  most : Int

def Tab.row (t : Tab) : List AV := [.s t.n, .vs t.zc 4 (t.cols.map Col.row), .vs t.zk 3 (t.keys.map Key.row), .i .i64 t.part, .i .i64 t.most]
@[simp] theorem Tab.row_len (v : Tab) : v.row.length = 5 := rfl
@[simp] theorem Tab.row_take (v : Tab) : v.row.take 5 = v.row := rfl
@[simp] theorem Tab.row_rf (v : Tab) : v.row.all rf1 = true := rfl
@[simp] theorem Tab.row_okc (v : Tab) : v.row.all AV.okc = true := rfl
theorem ints_len (l : List Int) : (ints l).length = l.length := by simp [ints]
theorem ints_take (l : List Int) (i : Nat) : (ints l).take i = ints (l.take i) := by simp [ints, List.map_take]
theorem ints_get {l : List Int} {i : Nat} {x : Int} (h : l[i]? = some x) : (ints l)[i]? = some [.i .i64 x] := by simp [ints, h]

@[simp] theorem Val.row_len (v : Val) : v.row.length = 3 := rfl
@[simp] theorem Val.row_take (v : Val) : v.row.take 3 = v.row := rfl
@[simp] theorem Col.row_len (v : Col) : v.row.length = 4 := rfl
@[simp] theorem Col.row_take (v : Col) : v.row.take 4 = v.row := rfl
@[simp] theorem Key.row_len (v : Key) : v.row.length = 3 := rfl
@[simp] theorem Key.row_take (v : Key) : v.row.take 3 = v.row := rfl

@[simp] theorem Val.row_rf (v : Val) : v.row.all rf1 = true := rfl
@[simp] theorem Col.row_rf (v : Col) : v.row.all rf1 = true := rfl
@[simp] theorem Key.row_rf (v : Key) : v.row.all rf1 = true := rfl
@[simp] theorem Val.row_okc (v : Val) : v.row.all AV.okc = true := rfl
@[simp] theorem Col.row_okc (v : Col) : v.row.all AV.okc = true := rfl
@[simp] theorem Key.row_okc (v : Key) : v.row.all AV.okc = true := rfl

/-- What is wrong with a value. -/
def valChk (v : Val) : Int :=
  if v.t < 0 then 1 else if 4 < v.t then 1
  else if v.t = 4 then (if v.n = 0 then 0 else if v.n = 1 then 0 else 1)
  else if v.t = 3 then (if 4096 < v.s.size then 2 else if validD v.s.data.toList then 0 else 3)
  else 0

def nameOk (s : ByteArray) : Bool := decide (1 ≤ s.size) && decide (s.size ≤ 32) && named s.data.toList

/-- What is wrong with a column behind some. -/
def colChk (ahead : List Col) (c : Col) : Int :=
  if nameOk c.n = false then 6 else if ahead.any (fun x => x.n.toList == c.n.toList) then 6
  else if c.t < 1 then 7 else if 4 < c.t then 7
  else if c.t = 3 then (if c.m < 1 then 1 else if 4096 < c.m then 1 else 0) else if c.m = 0 then 0 else 1

/-- The first that is wrong of some. -/
def firstBad {α : Type} (f : List α → α → Int) : List α → List α → Int
  | _, [] => 0
  | a, x :: r => if f a x = 0 then firstBad f (a ++ [x]) r else f a x

def colsIn (n : Int) : List Int → List Int → Bool
  | _, [] => true
  | a, x :: r => !(decide (x < 0)) && !(decide (n ≤ x)) && !(a.any (x == ·)) && colsIn n (a ++ [x]) r

/-- What is wrong with a key behind some. -/
def keyChk (cols : Int) (ahead : List Key) (k : Key) : Int :=
  if nameOk k.n = false then 6 else if ahead.any (fun x => x.n.toList == k.n.toList) then 6
  else if k.cs = [] then 1 else if 4 < k.cs.length then 1
  else if colsIn cols [] k.cs then 0 else 1

/-- The end of the check: the first key. -/
def lastChk (t : Tab) (k : Key) : Int :=
  if k.u = false then 84 else if k.cs.any (fun c => !((t.cols[c.toNat]?.map (·.nn)).getD true)) then 84
  else if 0 ≤ t.part ∧ k.cs.any (t.part == ·) = false then 1 else if t.most < 1 then 1 else if 4096 < t.most then 1 else 0

/-- What is wrong with a form. -/
def tabChk (t : Tab) : Int :=
  if nameOk t.n = false then 6 else if 16 < t.cols.length then 2 else if t.cols = [] then 1
  else if firstBad colChk [] t.cols ≠ 0 then firstBad colChk [] t.cols
  else if 16 < t.keys.length then 2
  else match t.keys with
    | [] => 84
    | k :: _ => if firstBad (keyChk t.cols.length) [] t.keys ≠ 0 then firstBad (keyChk t.cols.length) [] t.keys else lastChk t k

/-- What is wrong with a row of a form. -/
def rowBad : List Col → List Val → Int
  | c :: cs, v :: vs =>
    if valChk v ≠ 0 then valChk v
    else if v.t = 0 then (if c.nn then 81 else rowBad cs vs)
    else if v.t ≠ c.t then 7
    else if v.t = 3 ∧ c.m < v.s.size then 2
    else rowBad cs vs
  | _, _ => 0
def fitChk (t : Tab) (r : List Val) : Int := if r.length ≠ t.cols.length then 1 else rowBad t.cols r

end Ab
end Go.Proofs.YtgkaidnfmkncmaaDoor
