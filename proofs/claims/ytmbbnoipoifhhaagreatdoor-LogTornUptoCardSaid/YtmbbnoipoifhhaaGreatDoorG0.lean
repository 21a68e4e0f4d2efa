/-
  DERIVED. Calls by what they answer; lengths of slices.
  Conditions: none of a program's.
-/
import Derived.Test.YtmbbnoipoifhhaaGreatDoorDB
import Derived.Test.YtmbbnoipoifhhaaGreatDoorAbG
set_option linter.all false
set_option maxHeartbeats 4000000
namespace Go.Proofs.YtmbbnoipoifhhaaGreatDoor
namespace Ab
set_option maxRecDepth 100000

theorem Sp.cW {K n : Nat} {g : FuncId} {args : List AV} {hp : Hp} {nx : Nat} {Q' Q : AV → Hp → Nat → Prop} (h : Sp K n g args hp nx Q') (hq : ∀ r h' n', Q' r h' n' → Q r h' n') : Ab.cW (callA cfg K n g args hp nx) Q := by
  obtain ⟨r, h', n', h1, h2⟩ := h
  exact ⟨r, h', n', h1, hq _ _ _ h2⟩
theorem Sp.beside {K n : Nat} {g : FuncId} {args : List AV} {nx : Nat} {Q' : AV → Hp → Nat → Prop} {dst : Option Nat} {Q : Eff → Nat → Prop} (h : Sp K n g args [] nx Q') (hq : ∀ r h' n', Q' r h' n' → besideE dst Q r h' n') : Ab.cW (callA cfg K n g args [] nx) (besideE dst Q) := h.cW hq

def sliceT (P : Program) (t : TypeId) : Bool := match P.underlying t with
  | some (.slice _) => true
  | _ => false
def strT (P : Program) (t : TypeId) : Bool := match P.underlying t with
  | some .string => true
  | _ => false
def mapT (P : Program) (t : TypeId) : Bool := match P.underlying t with
  | some (.map _ _) => true
  | _ => false
theorem lenA_sl {P : Program} {get : Ref → Option AO} {t : TypeId} {x : AV} (h : sliceT P t = true) : lenA P get t x = (slLen x).map fun n => .i .i64 (n : Nat) := by
  unfold sliceT at h
  unfold lenA
  cases hu : P.underlying t with
  | none => rw [hu] at h; cases h
  | some d =>
    rw [hu] at h
    cases d <;> first | (cases h; done) | (cases x <;> rfl)
theorem lenA_str {P : Program} {get : Ref → Option AO} {t : TypeId} {x : ByteArray} (h : strT P t = true) : lenA P get t (.s x) = some (.i .i64 (x.size : Nat)) := by
  unfold strT at h
  unfold lenA
  cases hu : P.underlying t with
  | none => rw [hu] at h; cases h
  | some d =>
    rw [hu] at h
    cases d <;> first | (cases h; done) | rfl
theorem lenA_map0 {P : Program} {get : Ref → Option AO} {t : TypeId} (h : mapT P t = true) : lenA P get t (.mp none) = some (.i .i64 (0 : Nat)) := by
  unfold mapT at h
  unfold lenA
  cases hu : P.underlying t with
  | none => rw [hu] at h; cases h
  | some d =>
    rw [hu] at h
    cases d <;> first | (cases h; done) | rfl
theorem lenA_map {P : Program} {get : Ref → Option AO} {t : TypeId} {k : Nat} (h : mapT P t = true) : lenA P get t (.mp (some k)) = (match get (.h k 0) with
    | some (.mp es) => some (.i .i64 (es.length : Nat))
    | _ => none) := by
  unfold mapT at h
  unfold lenA
  cases hu : P.underlying t with
  | none => rw [hu] at h; cases h
  | some d =>
    rw [hu] at h
    cases d <;> first | (cases h; done) | rfl
@[simp] theorem slLen_vs {z : Bool} {sz : Nat} {rows : List (List AV)} : slLen (.vs z sz rows) = some rows.length := rfl
@[simp] theorem slLen_rs {k g i0 len sz : Nat} : slLen (.rs k g i0 len sz) = some len := rfl
attribute [simp] sliceT strT mapT lenA_str lenA_map0 lenA_map
theorem grw_lt {S : Nat → Prop} {nx nx' : Nat} (hS : ∀ j, S j → j < nx) (hx : nx ≤ nx') : ∀ j, grw S nx nx' j → j < nx' := fun j hj => hj.elim (fun hj => Nat.lt_of_lt_of_le (hS j hj) hx) (fun hj => hj.2)
theorem PRep.lt {hp : Hp} {nx k : Nat} {d : Dk} {S : Nat → Prop} (h : PRep hp nx k d S) : ∀ j, S j → j < nx := h.1
theorem PRep.topS {hp : Hp} {nx k : Nat} {d : Dk} {S : Nat → Prop} (h : PRep hp nx k d S) : S k := by
  obtain ⟨_, _, _, _, _, _, h⟩ := h
  exact h.topS

end Ab
end Go.Proofs.YtmbbnoipoifhhaaGreatDoor
