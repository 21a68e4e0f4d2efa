/-
  DERIVED. A DISK, in plain Lean: files, names as they are after each change that is open, what each call comes to.
  Conditions: none of a program's.
-/
import Derived.Test.YtecjchghapgdeaaP1
set_option linter.all false
set_option maxHeartbeats 4000000
namespace Go.Proofs.Ytecjchghapgdeaa
namespace Ab

structure Fl where
  b : Bs
  fast : Nat
abbrev Way := List (Bs × Nat)
structure Dk where
  quota : Nat
  files : List Fl
  ways : List Way
  left : Int
  dead : Bool

/-- Is a text ahead of another one, byte by byte? -/
def ltB (x y : Bs) : Bool := decide (x < y)

def nameOk (s : Bs) : Bool := decide (1 ≤ s.length) && decide (s.length ≤ 64) && s.all fun c => decide (33 ≤ c.toNat) && decide (c.toNat ≤ 126)
def Dk.now (d : Dk) : Way := d.ways.getLastD []
def findW (w : Way) (s : Bs) : Option Nat := (w.find? fun e => e.1 == s).map (·.2)
def insW (w : Way) (s : Bs) (i : Nat) : Way := (w.takeWhile fun e => ltB e.1 s) ++ (s, i) :: ((w.dropWhile fun e => ltB e.1 s).filter fun e => e.1 != s)
def delW (w : Way) (s : Bs) : Way := w.filter fun e => e.1 != s
def Dk.file (d : Dk) (i : Nat) : Fl := d.files[i]?.getD ⟨[], 0⟩
def Dk.setF (d : Dk) (i : Nat) (x : Fl) : Dk := { d with files := d.files.set i x }
def Dk.used (d : Dk) : Nat := (d.now.map fun e => (d.file e.2).b.length).sum

/-- Is a change that would be done not done? -/
def Dk.stops (d : Dk) : Bool := d.dead || d.left == 1
def Dk.stop1 (d : Dk) : Dk := if d.dead then d else if d.left = 1 then { d with dead := true } else if 1 < d.left then { d with left := d.left - 1 } else d

def Dk.goes (d : Dk) (f : Dk → Dk) : Int × Dk := if d.stops then (44, d.stop1) else (0, f d.stop1)
def Dk.with (d : Dk) (w : Way) : Dk := { d with ways := d.ways ++ [w] }

def Dk.create (d : Dk) (s : Bs) : Int × Dk :=
  if !nameOk s then (6, d) else if (findW d.now s).isSome then (41, d) else if 64 ≤ d.now.length then (43, d)
  else d.goes fun d => Dk.with { d with files := d.files ++ [⟨[], 0⟩] } (insW d.now s d.files.length)
/-- A call on the file of a name. -/
def Dk.at (d : Dk) (s : Bs) (f : Nat → Int × Dk) : Int × Dk :=
  if !nameOk s then (6, d) else match findW d.now s with
    | none => (40, d)
    | some i => f i
def Dk.put (d : Dk) (i : Nat) (b : Bs) : Dk := d.setF i ⟨(d.file i).b ++ b, (d.file i).fast⟩
def Dk.append (d : Dk) (s b : Bs) : Int × Dk := d.at s fun i =>
  if d.quota < d.used + b.length then (42, d) else if d.dead then (44, d) else if d.left = 1 then (44, d.stop1.put i (b.take (b.length / 2))) else (0, d.stop1.put i b)
def Dk.cut (d : Dk) (s : Bs) (n : Int) : Int × Dk := d.at s fun i =>
  if n < 0 ∨ ((d.file i).b.length : Int) < n then (1, d) else d.goes fun d => d.setF i ⟨(d.file i).b.take n.toNat, min (d.file i).fast n.toNat⟩
def Dk.rename (d : Dk) (s t : Bs) : Int × Dk := if !nameOk s || !nameOk t then (6, d) else d.at s fun i =>
  d.goes fun d => if s = t then d else d.with (insW (delW d.now s) t i)
def Dk.remove (d : Dk) (s : Bs) : Int × Dk := d.at s fun _ => d.goes fun d => d.with (delW d.now s)
def Dk.sync (d : Dk) (s : Bs) : Int × Dk := d.at s fun i => d.goes fun d => d.setF i ⟨(d.file i).b, (d.file i).b.length⟩
def Dk.syncNames (d : Dk) : Int × Dk := d.goes fun d => { d with ways := [d.now] }
def Dk.stop (d : Dk) (n : Int) : Dk := { d with left := n, dead := false }

/-- A file of a name, or what is wrong. -/
def Dk.look (d : Dk) (s : Bs) : Int × Option Fl :=
  if !nameOk s then (6, none) else match findW d.now s with
    | none => (40, none)
    | some i => (0, some (d.file i))

/-- A number's remainder; of one below nought: nought. -/
def leftN (k : Int) (n : Nat) : Nat := (max k 0).toNat % n
/-- A file behind a crash: so many of its open bytes stay. -/
def Fl.crash (x : Fl) (k : Int) : Fl :=
  if x.fast < x.b.length then let b := x.b.take (x.fast + leftN k (x.b.length - x.fast + 1)); ⟨b, b.length⟩ else ⟨x.b, x.b.length⟩
def crashF (keeps : List Int) : Way → Nat → List Fl → List Fl
  | [], _, fs => fs
  | e :: w, at_, fs =>
    let x := fs[e.2]?.getD ⟨[], 0⟩
    let k := if keeps = [] then 0 else keeps[at_ % keeps.length]?.getD 0
    crashF keeps w (if x.fast < x.b.length then at_ + 1 else at_) (fs.set e.2 (x.crash k))
def Dk.crash (d : Dk) (keeps : List Int) (names : Int) : Dk :=
  let w := d.ways[leftN names d.ways.length]?.getD []
  { d with ways := [w], left := 0, dead := false, files := crashF keeps w 0 d.files }

def newDk (quota : Nat) : Dk := ⟨quota, [], [[]], 0, false⟩

/-- Rising by name. -/
def Rising (w : Way) : Prop := w.Pairwise fun a b => ltB a.1 b.1 = true

/-- What always holds of a disk behind n calls. -/
structure Dk.Inv (d : Dk) (n : Nat) : Prop where
  quota : d.quota ≤ 2 ^ 24
  nfiles : d.files.length ≤ n
  nways : d.ways.length ≤ n + 1
  ne : d.ways ≠ []
  way : ∀ w ∈ d.ways, w.length ≤ 64 ∧ Rising w ∧ ∀ e ∈ w, e.2 < d.files.length ∧ nameOk e.1 = true
  file : ∀ x ∈ d.files, x.b.length ≤ 2 ^ 24 ∧ x.fast ≤ x.b.length
  left : -9223372036854775808 ≤ d.left ∧ d.left ≤ 9223372036854775807

end Ab
end Go.Proofs.Ytecjchghapgdeaa
