/-
  DERIVED. How a disk of the program, and one of the reference, lies on the heap.
  Conditions: none of a program's.
-/
import Derived.Test.YtecjchghapgdeaaD1
set_option linter.all false
set_option maxHeartbeats 4000000
namespace Go.Proofs.Ytecjchghapgdeaa
namespace Ab

def byteRows (l : Bs) : List (List AV) := l.map fun c => [.i .u8 (c.toNat : Int)]
@[simp] theorem byteRows_len (l : Bs) : (byteRows l).length = l.length := by simp [byteRows]
theorem byteRows_of (s : Bs) : rowsOfBytes (ba s) = byteRows s := rfl
theorem byteRows_app (a b : Bs) : byteRows (a ++ b) = byteRows a ++ byteRows b := by simp [byteRows]
theorem byteRows_take (a : Bs) (n : Nat) : byteRows (a.take n) = (byteRows a).take n := by simp [byteRows, List.map_take]
@[simp] theorem byteRows_nov (l : Bs) : (byteRows l).all (fun r => r.all nov1) = true := by
  simp [byteRows, nov1]
theorem bytesOf_rows : ∀ l : Bs, bytesOf (byteRows l) = some l
  | [] => rfl
  | c :: l => by
    have := bytesOf_rows l
    simp only [byteRows, List.map_cons, bytesOf] at this ⊢
    rw [show List.map (fun c : UInt8 => [AV.i .u8 (c.toNat : Int)]) l = byteRows l from rfl] at this ⊢
    rw [this]
    simp

/-- A slice on the heap that shows rows: nil, or an array's rows from a place on. -/
def SV (sz : Nat) (hp : Hp) (S : Nat → Prop) (v : AV) (rows : List (List AV)) : Prop :=
  (rows = [] ∧ ∃ z, v = .vs true z []) ∨ ∃ k g i0 all, v = .rs k g i0 rows.length sz ∧ lk hp k = some (g, .arr sz all) ∧ (all.drop i0).take rows.length = rows ∧ i0 + rows.length ≤ all.length ∧ S k
/-- A slice that is all of its array, from the first row on. -/
def SX (sz : Nat) (hp : Hp) (S : Nat → Prop) (v : AV) (rows : List (List AV)) : Prop :=
  (rows = [] ∧ v = .vs true 0 []) ∨ ∃ k g, v = .rs k g 0 rows.length sz ∧ lk hp k = some (g, .arr sz rows) ∧ S k

theorem SX.sv {sz : Nat} {hp : Hp} {S : Nat → Prop} {v : AV} {rows : List (List AV)} (h : SX sz hp S v rows) : SV sz hp S v rows := by
  rcases h with ⟨h1, h2⟩ | ⟨k, g, h1, h2, h3⟩
  · exact .inl ⟨h1, 0, h2⟩
  · exact .inr ⟨k, g, 0, rows, h1, h2, by simp, by simp, h3⟩
theorem SV.mono {sz : Nat} {hp hp' : Hp} {S S' : Nat → Prop} {v : AV} {rows : List (List AV)} (h : SV sz hp S v rows) (hf : ∀ j, S j → lk hp' j = lk hp j) (hS : ∀ j, S j → S' j) : SV sz hp' S' v rows := by
  rcases h with h | ⟨k, g, i0, all, h1, h2, h3, h4, h5⟩
  · exact .inl h
  · exact .inr ⟨k, g, i0, all, h1, (hf k h5).trans h2, h3, h4, hS k h5⟩
theorem SX.mono {sz : Nat} {hp hp' : Hp} {S S' : Nat → Prop} {v : AV} {rows : List (List AV)} (h : SX sz hp S v rows) (hf : ∀ j, S j → lk hp' j = lk hp j) (hS : ∀ j, S j → S' j) : SX sz hp' S' v rows := by
  rcases h with h | ⟨k, g, h1, h2, h5⟩
  · exact .inl h
  · exact .inr ⟨k, g, h1, (hf k h5).trans h2, hS k h5⟩

/-- Is a file in one of the ways? -/
def Dk.Has (d : Dk) (i : Nat) : Prop := ∃ w ∈ d.ways, ∃ e ∈ w, e.2 = i
def Dk.stopC (d : Dk) : Int := if d.dead then -1 else max d.left 0

/-- A map of a way. -/
def Mp (hp : Hp) (φ : Nat → Nat) (m : Nat) (w : Way) : Prop := ∃ es, lk hp m = some (0, .mp (encM es)) ∧ es.Perm (w.map fun e => (e.1, φ e.2))

/-- A disk of the program: k: its object; m: its map of names; ms: the maps that were; φ: the files' objects; β: their bytes' slices. -/
structure PDk (hp : Hp) (k m : Nat) (wv : AV) (ms : List Nat) (φ : Nat → Nat) (bv : Nat → AV) (d : Dk) (S : Nat → Prop) : Prop where
  top : lk hp k = some (0, .cells [.i .i64 (d.quota : Nat), .mp (some m), wv, .i .i64 d.stopC])
  topS : S k
  now : Mp hp φ m d.now
  nowS : S m
  was : SX 1 hp S wv (ms.map fun m => [.mp (some m)])
  waslen : ms.length + 1 = d.ways.length
  ways : ∀ (j mj : Nat) (w : Way), ms[j]? = some mj → d.ways[j]? = some w → Mp hp φ mj w ∧ S mj
  file : ∀ i, d.Has i → ∃ f, d.files[i]? = some f ∧ lk hp (φ i) = some (0, .cells [bv i, .i .i64 (f.fast : Nat)]) ∧ S (φ i) ∧ SX 1 hp S (bv i) (byteRows f.b)
  inj : ∀ i j, d.Has i → d.Has j → φ i = φ j → i = j
  binj : ∀ i j k g n g' n', d.Has i → d.Has j → bv i = .rs k g 0 n 1 → bv j = .rs k g' 0 n' 1 → i = j
  wasno : ∀ i k g n g' n', d.Has i → bv i = .rs k g 0 n 1 → wv = .rs k g' 0 n' 1 → False

def PRep (hp : Hp) (nx k : Nat) (d : Dk) (S : Nat → Prop) : Prop := (∀ j, S j → j < nx) ∧ ∃ m wv ms φ bv, PDk hp k m wv ms φ bv d S

/-- Nothing but what belongs to S, or is new, has turned. -/
structure Frm (S : Nat → Prop) (hp : Hp) (nx : Nat) (hp' : Hp) (nx' : Nat) : Prop where
  le : nx ≤ nx'
  out : ∀ j, j < nx → ¬ S j → lk hp' j = lk hp j
/-- What belongs to it then. -/
def grw (S : Nat → Prop) (nx nx' : Nat) : Nat → Prop := fun j => S j ∨ (nx ≤ j ∧ j < nx')

theorem Frm.refl (S : Nat → Prop) (hp : Hp) (nx : Nat) : Frm S hp nx hp nx := ⟨Nat.le_refl _, fun _ _ _ => rfl⟩
theorem Frm.trans {S : Nat → Prop} {h1 h2 h3 : Hp} {n1 n2 n3 : Nat} (a : Frm S h1 n1 h2 n2) (b : Frm (grw S n1 n2) h2 n2 h3 n3) : Frm S h1 n1 h3 n3 :=
  ⟨Nat.le_trans a.le b.le, fun j hj hn => (b.out j (Nat.lt_of_lt_of_le hj a.le) (fun h => h.elim hn fun h => by omega)).trans (a.out j hj hn)⟩
theorem grw_grw {S : Nat → Prop} {a b c : Nat} (h1 : a ≤ b) (h2 : b ≤ c) : grw (grw S a b) b c = grw S a c := by
  funext j
  simp only [grw, eq_iff_iff]
  constructor
  · rintro ((h | h) | h)
    · exact .inl h
    · exact .inr (by omega)
    · exact .inr (by omega)
  · rintro (h | h)
    · exact .inl (.inl h)
    · by_cases hb : j < b
      · exact .inl (.inr (by omega))
      · exact .inr (by omega)

theorem Mp.mono {hp hp' : Hp} {φ : Nat → Nat} {m : Nat} {w : Way} (h : Mp hp φ m w) (hm : lk hp' m = lk hp m) : Mp hp' φ m w := by
  obtain ⟨es, h1, h2⟩ := h
  exact ⟨es, hm.trans h1, h2⟩

theorem PRep.frame {hp hp' : Hp} {nx nx' k : Nat} {d : Dk} {S : Nat → Prop} (h : PRep hp nx k d S) (hf : ∀ j, S j → lk hp' j = lk hp j) (hn : nx ≤ nx') : PRep hp' nx' k d S := by
  obtain ⟨hS, m, wv, ms, φ, bv, h⟩ := h
  refine ⟨fun j hj => Nat.lt_of_lt_of_le (hS j hj) hn, m, wv, ms, φ, bv, (hf k h.topS).trans h.top, h.topS, h.now.mono (hf m h.nowS), h.nowS, h.was.mono hf fun _ h => h, h.waslen, fun j mj w h1 h2 => ?_, fun i hi => ?_, h.inj, h.binj, h.wasno⟩
  · obtain ⟨a, b⟩ := h.ways j mj w h1 h2
    exact ⟨a.mono (hf mj b), b⟩
  · obtain ⟨f, a, b, c, e⟩ := h.file i hi
    exact ⟨f, a, (hf _ c).trans b, c, e.mono hf fun _ h => h⟩

end Ab
end Go.Proofs.Ytecjchghapgdeaa
