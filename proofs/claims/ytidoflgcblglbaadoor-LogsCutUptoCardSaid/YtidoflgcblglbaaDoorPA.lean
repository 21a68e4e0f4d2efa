/-
  DERIVED. TEXTS as lists of bytes; functions told by a relation of their own.
  Conditions: none of a program's.
-/
import Derived.Test.YtidoflgcblglbaaDoorAbG
import Derived.Laws.Strings
import Derived.Lib.ValidU
set_option linter.all false
set_option maxHeartbeats 4000000
namespace Go.Proofs.YtidoflgcblglbaaDoor
namespace Ab
open Go

abbrev Bs := List UInt8
def ba (l : Bs) : ByteArray := ⟨l.toArray⟩
@[simp] theorem ba_data (l : Bs) : (ba l).data.toList = l := rfl
@[simp] theorem ba_arr (l : Bs) : (ba l).data = l.toArray := rfl
@[simp] theorem ba_size (l : Bs) : (ba l).size = l.length := by simp [ba, ByteArray.size]
theorem ba_list (l : Bs) : (ba l).toList = l := by
  rw [ByteArray.toList_eq]; rfl
theorem ba_of (s : ByteArray) : s = ba s.data.toList := rfl
theorem ba_inj {a b : Bs} (h : ba a = ba b) : a = b := by
  have := congrArg (fun x : ByteArray => x.data.toList) h
  simpa using this

/-- A map of texts to objects. -/
def encM (es : List (Bs × Nat)) : List (AV × AV) := es.map fun e => (.s (ba e.1), .ptr e.2 0 0)
@[simp] theorem encM_len (es : List (Bs × Nat)) : (encM es).length = es.length := by simp [encM]
theorem encM_inj : ∀ {a b : List (Bs × Nat)}, encM a = encM b → a = b
  | [], [], _ => rfl
  | [], _ :: _, h => by cases h
  | _ :: _, [], h => by cases h
  | x :: a, y :: b, h => by
    simp only [encM, List.map_cons, List.cons.injEq, Prod.mk.injEq, AV.s.injEq, AV.ptr.injEq, and_true] at h
    have h1 := ba_inj h.1.1
    have h2 := encM_inj (a := a) (b := b) h.2
    rw [h2]
    congr 1
    exact Prod.ext h1 h.1.2

/-- How long a slice is. -/
def slLen : AV → Option Nat
  | .vs _ _ rows => some rows.length
  | .rs _ _ _ len _ => some len
  | _ => none

abbrev RelT := List AV → Hp → Nat → AV × Hp × Nat → Prop
open Classical in
noncomputable def hintOf (R : RelT) (args : List AV) (hp : Hp) (nx : Nat) : Option (AV × Hp × Nat) := if h : ∃ o, R args hp nx o then some h.choose else none
theorem hintOf_some {R : RelT} {args : List AV} {hp : Hp} {nx : Nat} {o : AV × Hp × Nat} (h : hintOf R args hp nx = some o) : R args hp nx o := by
  unfold hintOf at h
  split at h
  · rename_i hx
    cases h
    exact hx.choose_spec
  · cases h
theorem hintOf_of {R : RelT} {args : List AV} {hp : Hp} {nx : Nat} {o : AV × Hp × Nat} (h : R args hp nx o) (hu : ∀ o', R args hp nx o' → o' = o) : hintOf R args hp nx = some o := by
  have hx : ∃ o, R args hp nx o := ⟨o, h⟩
  unfold hintOf
  rw [dif_pos hx, hu _ hx.choose_spec]

/-- How long all files of a disk's map are. -/
def RUsed : RelT := fun args hp nx o => ∃ (k m : Nat) (q ws st : AV) (es : List (Bs × Nat)) (ln : Nat → Nat), args = [.ptr k 0 0] ∧ lk hp k = some (0, .cells [q, .mp (some m), ws, st]) ∧ lk hp m = some (0, .mp (encM es)) ∧
  (∀ e ∈ es, ∃ v f, lk hp e.2 = some (0, .cells [v, f]) ∧ slLen v = some (ln e.2)) ∧ (es.map fun e => ln e.2).sum < 2 ^ 62 ∧ o = (.i .i64 ((es.map fun e => ln e.2).sum : Nat), hp, nx)
/-- maps.Clone. -/
def RClone : RelT := fun args hp nx o => ∃ m es, args = [.mp (some m)] ∧ lk hp m = some (0, .mp es) ∧ o = (.mp (some nx), up hp nx (0, .mp es), nx + 1)
/-- A disk's names, rising. -/
def RList : RelT := fun args hp nx o => ∃ (k m : Nat) (q ws st : AV) (es : List (Bs × Nat)), args = [.ptr k 0 0] ∧ lk hp k = some (0, .cells [q, .mp (some m), ws, st]) ∧ lk hp m = some (0, .mp (encM es)) ∧
  (es.map (·.1)).Nodup ∧ es.length ≤ 2 ^ 20 ∧ (∀ e ∈ es, e.1.length ≤ 2 ^ 20) ∧
  o = if es = [] then (.vs true 0 [], hp, nx) else (.rs nx 0 0 es.length 1, up hp nx (0, .arr 1 (((es.map (·.1)).mergeSort fun x y => decide (x ≤ y)).map fun x => [.s (ba x)])), nx + 1)

end Ab
end Go.Proofs.YtidoflgcblglbaaDoor

/-
  DERIVED. What the library's functions answer here: utf8.ValidString; slices.SortFunc of records by their numbers, told by a relation.
  Conditions: none; nothing is claimed here.
-/
namespace Go.Proofs.YtidoflgcblglbaaDoor
namespace Ab

def intr26 : FuncId → Option (List AV → Option AV)
  | 102 => some fun args => match args with
    | [.s s] => if s.size ≤ 9223372036854775807 then some (.b (Go.Lib.validD s.data.toList)) else none
    | _ => none
  | _ => none

/-- A row's number. -/
def keyRow (r : List AV) : Nat := match r with
  | .i .u64 n :: _ => n.toNat
  | _ => 0
/-- Is a row one of six cells with a number ahead? -/
def KeyRow (r : List AV) : Prop := r.length = 6 ∧ ∃ (n : Nat) (c : List AV), r = .i .u64 (n : Nat) :: c ∧ n < 18446744073709551616
def RSort : RelT := fun args hp nx o =>
  (∃ z sz f, args = [.vs z sz [], f] ∧ f = .fn 38 [] ∧ o = (.tup [], hp, nx)) ∨
  ∃ (k g : Nat) (rows rows' : List (List AV)), args = [.rs k g 0 rows.length 6, .fn 38 []] ∧ lk hp k = some (g, .arr 6 rows) ∧ (∀ r ∈ rows, KeyRow r) ∧ (rows.map keyRow).Nodup ∧ rows.length < 2 ^ 40 ∧ rows'.Perm rows ∧ (rows'.map keyRow).Pairwise (· < ·) ∧ o = (.tup [], up hp k (g, .arr 6 rows'), nx)
noncomputable def hint26 : FuncId → Option (List AV → Hp → Nat → Option (AV × Hp × Nat))
  | 37 => some (hintOf RSort)
  | _ => none

end Ab
end Go.Proofs.YtidoflgcblglbaaDoor
