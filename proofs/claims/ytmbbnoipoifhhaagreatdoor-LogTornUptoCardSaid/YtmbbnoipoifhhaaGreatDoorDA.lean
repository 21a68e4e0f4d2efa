/-
  DERIVED. A DISK, in plain Lean: files, names as they are after each change that is open, what each call comes to.
  Conditions: none of a program's.
-/
import Derived.Test.YtmbbnoipoifhhaaGreatDoorPA
import Derived.Sort.Walk0
set_option linter.all false
set_option maxHeartbeats 4000000
namespace Go.Proofs.YtmbbnoipoifhhaaGreatDoor
namespace Ab

structure Fl where
  b : Bs
  fast : Nat
abbrev Way := List (Bs × Nat)
structure Dk where
  quota : Nat
  files : List Fl
  ways : List Way
  left : Int
  dead : Bool

/-- Is a text ahead of another one, byte by byte? -/
def ltB (x y : Bs) : Bool := decide (x < y)

def nameOk (s : Bs) : Bool := decide (1 ≤ s.length) && decide (s.length ≤ 64) && s.all fun c => decide (33 ≤ c.toNat) && decide (c.toNat ≤ 126)
def Dk.now (d : Dk) : Way := d.ways.getLastD []
def findW (w : Way) (s : Bs) : Option Nat := (w.find? fun e => e.1 == s).map (·.2)
def insW (w : Way) (s : Bs) (i : Nat) : Way := (w.takeWhile fun e => ltB e.1 s) ++ (s, i) :: ((w.dropWhile fun e => ltB e.1 s).filter fun e => e.1 != s)
def delW (w : Way) (s : Bs) : Way := w.filter fun e => e.1 != s
def Dk.file (d : Dk) (i : Nat) : Fl := d.files[i]?.getD ⟨[], 0⟩
def Dk.setF (d : Dk) (i : Nat) (x : Fl) : Dk := { d with files := d.files.set i x }
def Dk.used (d : Dk) : Nat := (d.now.map fun e => (d.file e.2).b.length).sum

/-- Is a change that would be done not done? -/
def Dk.stops (d : Dk) : Bool := d.dead || d.left == 1
def Dk.stop1 (d : Dk) : Dk := if d.dead then d else if d.left = 1 then { d with dead := true } else if 1 < d.left then { d with left := d.left - 1 } else d

def Dk.goes (d : Dk) (f : Dk → Dk) : Int × Dk := if d.stops then (44, d.stop1) else (0, f d.stop1)
def Dk.with (d : Dk) (w : Way) : Dk := { d with ways := d.ways ++ [w] }

def Dk.create (d : Dk) (s : Bs) : Int × Dk :=
  if !nameOk s then (6, d) else if (findW d.now s).isSome then (41, d) else if 64 ≤ d.now.length then (43, d)
  else d.goes fun d => Dk.with { d with files := d.files ++ [⟨[], 0⟩] } (insW d.now s d.files.length)
/-- A call on the file of a name. -/
def Dk.at (d : Dk) (s : Bs) (f : Nat → Int × Dk) : Int × Dk :=
  if !nameOk s then (6, d) else match findW d.now s with
    | none => (40, d)
    | some i => f i
def Dk.put (d : Dk) (i : Nat) (b : Bs) : Dk := d.setF i ⟨(d.file i).b ++ b, (d.file i).fast⟩
def Dk.append (d : Dk) (s b : Bs) : Int × Dk := d.at s fun i =>
  if d.quota < d.used + b.length then (42, d) else if d.dead then (44, d) else if d.left = 1 then (44, d.stop1.put i (b.take (b.length / 2))) else (0, d.stop1.put i b)
def Dk.cut (d : Dk) (s : Bs) (n : Int) : Int × Dk := d.at s fun i =>
  if n < 0 ∨ ((d.file i).b.length : Int) < n then (1, d) else d.goes fun d => d.setF i ⟨(d.file i).b.take n.toNat, min (d.file i).fast n.toNat⟩
def Dk.remove (d : Dk) (s : Bs) : Int × Dk := d.at s fun _ => d.goes fun d => d.with (delW d.now s)
def Dk.sync (d : Dk) (s : Bs) : Int × Dk := d.at s fun i => d.goes fun d => d.setF i ⟨(d.file i).b, (d.file i).b.length⟩
def Dk.syncNames (d : Dk) : Int × Dk := d.goes fun d => { d with ways := [d.now] }
def Dk.stop (d : Dk) (n : Int) : Dk := { d with left := n, dead := false }

/-- A file of a name, or what is wrong. -/
def Dk.look (d : Dk) (s : Bs) : Int × Option Fl :=
  if !nameOk s then (6, none) else match findW d.now s with
    | none => (40, none)
    | some i => (0, some (d.file i))

/-- A number's remainder; of one below nought: nought. -/
def leftN (k : Int) (n : Nat) : Nat := (max k 0).toNat % n
/-- A file behind a crash: so many of its open bytes stay. -/
def Fl.crash (x : Fl) (k : Int) : Fl :=
  if x.fast < x.b.length then let b := x.b.take (x.fast + leftN k (x.b.length - x.fast + 1)); ⟨b, b.length⟩ else ⟨x.b, x.b.length⟩
def crashF (keeps : List Int) : Way → Nat → List Fl → List Fl
  | [], _, fs => fs
  | e :: w, at_, fs =>
    let x := fs[e.2]?.getD ⟨[], 0⟩
    let k := if keeps = [] then 0 else keeps[at_ % keeps.length]?.getD 0
    crashF keeps w (if x.fast < x.b.length then at_ + 1 else at_) (fs.set e.2 (x.crash k))
def Dk.crash (d : Dk) (keeps : List Int) (names : Int) : Dk :=
  let w := d.ways[leftN names d.ways.length]?.getD []
  { d with ways := [w], left := 0, dead := false, files := crashF keeps w 0 d.files }

def newDk (quota : Nat) : Dk := ⟨quota, [], [[]], 0, false⟩

/-- Rising by name. -/
def Rising (w : Way) : Prop := w.Pairwise fun a b => ltB a.1 b.1 = true

/-- What always holds of a disk behind n calls. -/
structure Dk.Inv (d : Dk) (n : Nat) : Prop where
  quota : d.quota ≤ 2 ^ 24
  nfiles : d.files.length ≤ n
  nways : d.ways.length ≤ n + 1
  ne : d.ways ≠ []
  way : ∀ w ∈ d.ways, w.length ≤ 64 ∧ Rising w ∧ ∀ e ∈ w, e.2 < d.files.length ∧ nameOk e.1 = true
  file : ∀ x ∈ d.files, x.b.length ≤ 2 ^ 24 ∧ x.fast ≤ x.b.length
  left : -9223372036854775808 ≤ d.left ∧ d.left ≤ 9223372036854775807

end Ab
end Go.Proofs.YtmbbnoipoifhhaaGreatDoor

/-
  DERIVED. How a disk of the program, and one of the reference, lies on the heap.
  Conditions: none of a program's.
-/
namespace Go.Proofs.YtmbbnoipoifhhaaGreatDoor
namespace Ab

def byteRows (l : Bs) : List (List AV) := l.map fun c => [.i .u8 (c.toNat : Int)]
@[simp] theorem byteRows_len (l : Bs) : (byteRows l).length = l.length := by simp [byteRows]
theorem byteRows_app (a b : Bs) : byteRows (a ++ b) = byteRows a ++ byteRows b := by simp [byteRows]
theorem byteRows_take (a : Bs) (n : Nat) : byteRows (a.take n) = (byteRows a).take n := by simp [byteRows, List.map_take]
@[simp] theorem byteRows_nov (l : Bs) : (byteRows l).all (fun r => r.all nov1) = true := by
  simp [byteRows, nov1]
theorem bytesOf_rows : ∀ l : Bs, bytesOf (byteRows l) = some l
  | [] => rfl
  | c :: l => by
    have := bytesOf_rows l
    simp only [byteRows, List.map_cons, bytesOf] at this ⊢
    rw [show List.map (fun c : UInt8 => [AV.i .u8 (c.toNat : Int)]) l = byteRows l from rfl] at this ⊢
    rw [this]
    simp

/-- A slice on the heap that shows rows: nil, or an array's rows from a place on. -/
def SV (sz : Nat) (hp : Hp) (S : Nat → Prop) (v : AV) (rows : List (List AV)) : Prop :=
  (rows = [] ∧ ∃ z, v = .vs true z []) ∨ ∃ k g i0 all, v = .rs k g i0 rows.length sz ∧ lk hp k = some (g, .arr sz all) ∧ (all.drop i0).take rows.length = rows ∧ i0 + rows.length ≤ all.length ∧ S k
/-- A slice that is all of its array, from the first row on. -/
def SX (sz : Nat) (hp : Hp) (S : Nat → Prop) (v : AV) (rows : List (List AV)) : Prop :=
  (rows = [] ∧ v = .vs true 0 []) ∨ ∃ k g, v = .rs k g 0 rows.length sz ∧ lk hp k = some (g, .arr sz rows) ∧ S k

theorem SX.sv {sz : Nat} {hp : Hp} {S : Nat → Prop} {v : AV} {rows : List (List AV)} (h : SX sz hp S v rows) : SV sz hp S v rows := by
  rcases h with ⟨h1, h2⟩ | ⟨k, g, h1, h2, h3⟩
  · exact .inl ⟨h1, 0, h2⟩
  · exact .inr ⟨k, g, 0, rows, h1, h2, by simp, by simp, h3⟩
theorem SV.mono {sz : Nat} {hp hp' : Hp} {S S' : Nat → Prop} {v : AV} {rows : List (List AV)} (h : SV sz hp S v rows) (hf : ∀ j, S j → lk hp' j = lk hp j) (hS : ∀ j, S j → S' j) : SV sz hp' S' v rows := by
  rcases h with h | ⟨k, g, i0, all, h1, h2, h3, h4, h5⟩
  · exact .inl h
  · exact .inr ⟨k, g, i0, all, h1, (hf k h5).trans h2, h3, h4, hS k h5⟩
theorem SX.mono {sz : Nat} {hp hp' : Hp} {S S' : Nat → Prop} {v : AV} {rows : List (List AV)} (h : SX sz hp S v rows) (hf : ∀ j, S j → lk hp' j = lk hp j) (hS : ∀ j, S j → S' j) : SX sz hp' S' v rows := by
  rcases h with h | ⟨k, g, h1, h2, h5⟩
  · exact .inl h
  · exact .inr ⟨k, g, h1, (hf k h5).trans h2, hS k h5⟩

/-- Is a file in one of the ways? -/
def Dk.Has (d : Dk) (i : Nat) : Prop := ∃ w ∈ d.ways, ∃ e ∈ w, e.2 = i
def Dk.stopC (d : Dk) : Int := if d.dead then -1 else max d.left 0

/-- A map of a way. -/
def Mp (hp : Hp) (φ : Nat → Nat) (m : Nat) (w : Way) : Prop := ∃ es, lk hp m = some (0, .mp (encM es)) ∧ es.Perm (w.map fun e => (e.1, φ e.2))

/-- A disk of the program: k: its object; m: its map of names; ms: the maps that were; φ: the files' objects; β: their bytes' slices. -/
structure PDk (hp : Hp) (k m : Nat) (wv : AV) (ms : List Nat) (φ : Nat → Nat) (bv : Nat → AV) (d : Dk) (S : Nat → Prop) : Prop where
  top : lk hp k = some (0, .cells [.i .i64 (d.quota : Nat), .mp (some m), wv, .i .i64 d.stopC])
  topS : S k
  now : Mp hp φ m d.now
  nowS : S m
  was : SX 1 hp S wv (ms.map fun m => [.mp (some m)])
  waslen : ms.length + 1 = d.ways.length
  ways : ∀ (j mj : Nat) (w : Way), ms[j]? = some mj → d.ways[j]? = some w → Mp hp φ mj w ∧ S mj
  file : ∀ i, d.Has i → ∃ f, d.files[i]? = some f ∧ lk hp (φ i) = some (0, .cells [bv i, .i .i64 (f.fast : Nat)]) ∧ S (φ i) ∧ SX 1 hp S (bv i) (byteRows f.b)
  inj : ∀ i j, d.Has i → d.Has j → φ i = φ j → i = j
  binj : ∀ i j k g n g' n', d.Has i → d.Has j → bv i = .rs k g 0 n 1 → bv j = .rs k g' 0 n' 1 → i = j
  wasno : ∀ i k g n g' n', d.Has i → bv i = .rs k g 0 n 1 → wv = .rs k g' 0 n' 1 → False

def PRep (hp : Hp) (nx k : Nat) (d : Dk) (S : Nat → Prop) : Prop := (∀ j, S j → j < nx) ∧ ∃ m wv ms φ bv, PDk hp k m wv ms φ bv d S

/-- Nothing but what belongs to S, or is new, has turned. -/
structure Frm (S : Nat → Prop) (hp : Hp) (nx : Nat) (hp' : Hp) (nx' : Nat) : Prop where
  le : nx ≤ nx'
  out : ∀ j, j < nx → ¬ S j → lk hp' j = lk hp j
/-- What belongs to it then. -/
def grw (S : Nat → Prop) (nx nx' : Nat) : Nat → Prop := fun j => S j ∨ (nx ≤ j ∧ j < nx')

theorem Frm.refl (S : Nat → Prop) (hp : Hp) (nx : Nat) : Frm S hp nx hp nx := ⟨Nat.le_refl _, fun _ _ _ => rfl⟩
theorem Frm.trans {S : Nat → Prop} {h1 h2 h3 : Hp} {n1 n2 n3 : Nat} (a : Frm S h1 n1 h2 n2) (b : Frm (grw S n1 n2) h2 n2 h3 n3) : Frm S h1 n1 h3 n3 :=
  ⟨Nat.le_trans a.le b.le, fun j hj hn => (b.out j (Nat.lt_of_lt_of_le hj a.le) (fun h => h.elim hn fun h => by omega)).trans (a.out j hj hn)⟩
theorem Mp.mono {hp hp' : Hp} {φ : Nat → Nat} {m : Nat} {w : Way} (h : Mp hp φ m w) (hm : lk hp' m = lk hp m) : Mp hp' φ m w := by
  obtain ⟨es, h1, h2⟩ := h
  exact ⟨es, hm.trans h1, h2⟩

theorem PRep.frame {hp hp' : Hp} {nx nx' k : Nat} {d : Dk} {S : Nat → Prop} (h : PRep hp nx k d S) (hf : ∀ j, S j → lk hp' j = lk hp j) (hn : nx ≤ nx') : PRep hp' nx' k d S := by
  obtain ⟨hS, m, wv, ms, φ, bv, h⟩ := h
  refine ⟨fun j hj => Nat.lt_of_lt_of_le (hS j hj) hn, m, wv, ms, φ, bv, (hf k h.topS).trans h.top, h.topS, h.now.mono (hf m h.nowS), h.nowS, h.was.mono hf fun _ h => h, h.waslen, fun j mj w h1 h2 => ?_, fun i hi => ?_, h.inj, h.binj, h.wasno⟩
  · obtain ⟨a, b⟩ := h.ways j mj w h1 h2
    exact ⟨a.mono (hf mj b), b⟩
  · obtain ⟨f, a, b, c, e⟩ := h.file i hi
    exact ⟨f, a, (hf _ c).trans b, c, e.mono hf fun _ h => h⟩

end Ab
end Go.Proofs.YtmbbnoipoifhhaaGreatDoor

/-
  DERIVED. What a map of names is, behind an update, a deletion; the ways that it stands for; names, rising.
  Conditions: none of a program's.
-/
namespace Go.Proofs.YtmbbnoipoifhhaaGreatDoor
namespace Ab

theorem ltB_irr (x : Bs) : ltB x x = false := by simp [ltB, List.lt_irrefl]
theorem ltB_trans {x y z : Bs} (h1 : ltB x y = true) (h2 : ltB y z = true) : ltB x z = true := by
  simp only [ltB, decide_eq_true_eq] at *
  exact List.lt_trans h1 h2
theorem ltB_ne {x y : Bs} (h : ltB x y = true) : x ≠ y := by
  rintro rfl
  rw [ltB_irr] at h
  cases h
theorem ltB_tri {x y : Bs} (h1 : ltB x y = false) (h2 : x ≠ y) : ltB y x = true := by
  simp only [ltB, decide_eq_false_iff_not, decide_eq_true_eq] at *
  by_cases h3 : y < x
  · exact h3
  · exact absurd (List.le_antisymm (List.not_lt.1 h3) (List.not_lt.1 h1)) h2

/-- Where a name stands in a map's entries, and its file. -/
def fI : List (Bs × Nat) → Bs → Nat → Option (Nat × Nat)
  | [], _, _ => none
  | e :: r, s, i => if e.1 = s then some (i, e.2) else fI r s (i + 1)
def updM (es : List (Bs × Nat)) (s : Bs) (n : Nat) : List (Bs × Nat) := match fI es s 0 with
  | some (i, _) => es.set i (s, n)
  | none => es ++ [(s, n)]
def delM (es : List (Bs × Nat)) (s : Bs) : List (Bs × Nat) := match fI es s 0 with
  | some (i, _) => es.eraseIdx i
  | none => es

theorem ba_beq (a b : Bs) : (ba a == ba b) = decide (a = b) := by
  have h1 : (ba a == ba b) = (a.toArray == b.toArray) := rfl
  rw [h1]
  by_cases h : a = b
  · subst h; simp
  · have : ¬ a.toArray = b.toArray := fun e => h (by simpa using e)
    simp [h]

theorem findA_enc (s : Bs) : ∀ (es : List (Bs × Nat)) (i : Nat), findA .string (.s (ba s)) (encM es) i = some ((fI es s i).map fun x => (x.1, .ptr x.2 0 0))
  | [], _ => rfl
  | e :: r, i => by
    simp only [encM, List.map_cons, findA, sameA, fI]
    rw [ba_beq]
    have ih := findA_enc s r (i + 1)
    simp only [encM] at ih
    by_cases h : s = e.1
    · subst h; simp
    · have h2 : ¬ e.1 = s := fun x => h x.symm
      simp [h, h2, ih]

theorem encM_app (es : List (Bs × Nat)) (s : Bs) (n : Nat) : encM es ++ [(.s (ba s), .ptr n 0 0)] = encM (es ++ [(s, n)]) := by simp [encM]
theorem encM_erase (es : List (Bs × Nat)) (i : Nat) : (encM es).eraseIdx i = encM (es.eraseIdx i) := by
  simp only [encM]
  induction es generalizing i with
  | nil => rfl
  | cons e r ih =>
    cases i with
    | zero => rfl
    | succ i => simp [ih]

theorem fI_none {s : Bs} : ∀ {es : List (Bs × Nat)} {i : Nat}, fI es s i = none ↔ ∀ e ∈ es, e.1 ≠ s
  | [], _ => by simp [fI]
  | e :: r, i => by
    simp only [fI]
    by_cases h : e.1 = s
    · simp [h]
    · simp [h, fI_none (es := r) (i := i + 1)]
theorem fI_some {s : Bs} : ∀ {es : List (Bs × Nat)} {i j n : Nat}, fI es s i = some (j, n) → ∃ a b, es = a ++ (s, n) :: b ∧ j = i + a.length ∧ ∀ e ∈ a, e.1 ≠ s
  | [], _, _, _, h => by cases h
  | e :: r, i, j, n, h => by
    simp only [fI] at h
    by_cases he : e.1 = s
    · rw [if_pos he] at h
      cases h
      exact ⟨[], r, by rw [← he]; rfl, rfl, by simp⟩
    · rw [if_neg he] at h
      obtain ⟨a, b, h1, h2, h3⟩ := fI_some h
      exact ⟨e :: a, b, by rw [h1]; rfl, by simp; omega, by simpa [he] using h3⟩

def NodupK (es : List (Bs × Nat)) : Prop := (es.map (·.1)).Nodup

theorem updM_perm {es : List (Bs × Nat)} (s : Bs) (n : Nat) (h : NodupK es) : (updM es s n).Perm ((s, n) :: es.filter fun e => e.1 != s) := by
  unfold updM
  cases hf : fI es s 0 with
  | none =>
    have h1 := fI_none.1 hf
    have h2 : es.filter (fun e => e.1 != s) = es := by
      rw [List.filter_eq_self]
      intro e he
      simpa using h1 e he
    rw [h2]
    exact List.perm_append_comm
  | some x =>
    obtain ⟨i, n0⟩ := x
    obtain ⟨a, b, h1, h2, h3⟩ := fI_some hf
    simp only [Nat.zero_add] at h2
    subst h2 h1
    have hb : ∀ e ∈ b, e.1 ≠ s := by
      intro e he hes
      simp only [NodupK, List.map_append, List.map_cons, List.nodup_append, List.nodup_cons] at h
      exact h.2.1.1 (List.mem_map.2 ⟨e, he, hes⟩)
    have ha2 : a.filter (fun e => e.1 != s) = a := by rw [List.filter_eq_self]; intro e he; simpa using h3 e he
    have hb2 : b.filter (fun e => e.1 != s) = b := by rw [List.filter_eq_self]; intro e he; simpa using hb e he
    simp only [List.filter_append, List.filter_cons, ha2, hb2]
    simp only [bne_self_eq_false, Bool.false_eq_true, if_false]
    rw [show (a ++ (s, n0) :: b).set a.length (s, n) = a ++ (s, n) :: b by simp [List.set_append]]
    exact List.perm_middle

theorem delM_eq {es : List (Bs × Nat)} (s : Bs) (h : NodupK es) : delM es s = es.filter fun e => e.1 != s := by
  unfold delM
  cases hf : fI es s 0 with
  | none =>
    have h1 := fI_none.1 hf
    symm
    rw [List.filter_eq_self]
    intro e he
    simpa using h1 e he
  | some x =>
    obtain ⟨i, n0⟩ := x
    obtain ⟨a, b, h1, h2, h3⟩ := fI_some hf
    simp only [Nat.zero_add] at h2
    subst h2 h1
    have hb : ∀ e ∈ b, e.1 ≠ s := by
      intro e he hes
      simp only [NodupK, List.map_append, List.map_cons, List.nodup_append, List.nodup_cons] at h
      exact h.2.1.1 (List.mem_map.2 ⟨e, he, hes⟩)
    have ha2 : a.filter (fun e => e.1 != s) = a := by rw [List.filter_eq_self]; intro e he; simpa using h3 e he
    have hb2 : b.filter (fun e => e.1 != s) = b := by rw [List.filter_eq_self]; intro e he; simpa using hb e he
    simp only [List.filter_append, List.filter_cons, ha2, hb2]
    simp only [bne_self_eq_false, Bool.false_eq_true, if_false]
    rw [List.eraseIdx_append_of_length_le (by omega)]
    simp

/- Ways. -/
theorem Rising.nodup {w : Way} (h : Rising w) : NodupK w := by
  unfold NodupK Rising at *
  rw [List.nodup_iff_pairwise_ne, List.pairwise_map]
  exact h.imp fun hab => ltB_ne hab

theorem insW_perm (w : Way) (s : Bs) (i : Nat) : (insW w s i).Perm ((s, i) :: w.filter fun e => e.1 != s) := by
  unfold insW
  have h1 : (w.takeWhile fun e => ltB e.1 s).filter (fun e => e.1 != s) = w.takeWhile fun e => ltB e.1 s := by
    rw [List.filter_eq_self]
    intro e he
    have : ltB e.1 s = true := by
      exact List.all_eq_true.1 (List.all_takeWhile ..) e he
    simpa using ltB_ne this
  have h2 : w.filter (fun e => e.1 != s) = (w.takeWhile fun e => ltB e.1 s) ++ (w.dropWhile fun e => ltB e.1 s).filter fun e => e.1 != s := by
    conv => lhs; rw [← List.takeWhile_append_dropWhile (p := fun e => ltB e.1 s) (l := w)]
    rw [List.filter_append, h1]
  rw [h2]
  exact List.perm_middle

theorem delW_rising {w : Way} (s : Bs) (h : Rising w) : Rising (delW w s) := h.sublist (List.filter_sublist ..)

theorem drop_gt {s : Bs} : ∀ {w : Way}, Rising w → ∀ e ∈ (w.dropWhile fun e => ltB e.1 s), e.1 ≠ s → ltB s e.1 = true
  | [], _, e, he, _ => by simp at he
  | x :: w, h, e, he, hne => by
    rw [List.dropWhile_cons] at he
    simp only [Rising, List.pairwise_cons] at h
    by_cases hx : ltB x.1 s = true
    · rw [if_pos hx] at he
      exact drop_gt h.2 e he hne
    · rw [if_neg hx] at he
      have hx' : ltB x.1 s = false := by simpa using hx
      rcases List.mem_cons.1 he with rfl | he
      · exact ltB_tri hx' hne
      · have h1 := h.1 e he
        by_cases hxs : x.1 = s
        · rw [← hxs]; exact h1
        · exact ltB_trans (ltB_tri hx' hxs) h1

theorem insW_rising {w : Way} (s : Bs) (i : Nat) (h : Rising w) : Rising (insW w s i) := by
  unfold insW Rising
  have hw : ((w.takeWhile fun e => ltB e.1 s) ++ (w.dropWhile fun e => ltB e.1 s)).Pairwise fun a b => ltB a.1 b.1 = true := by
    rw [List.takeWhile_append_dropWhile]; exact h
  rw [List.pairwise_append] at hw
  rw [List.pairwise_append]
  have hlt : ∀ e ∈ (w.takeWhile fun e => ltB e.1 s), ltB e.1 s = true := fun e he => List.all_eq_true.1 (List.all_takeWhile ..) e he
  refine ⟨hw.1, ?_, ?_⟩
  · rw [List.pairwise_cons]
    refine ⟨fun e he => ?_, hw.2.1.sublist (List.filter_sublist ..)⟩
    simp only [List.mem_filter, bne_iff_ne, ne_eq] at he
    exact drop_gt h e he.1 he.2
  · intro a ha b hb
    rcases List.mem_cons.1 hb with rfl | hb
    · exact hlt a ha
    · exact hw.2.2 a ha b (List.mem_filter.1 hb).1

theorem insW_mem {w : Way} {s : Bs} {i : Nat} {e : Bs × Nat} (h : e ∈ insW w s i) : e = (s, i) ∨ e ∈ w := by
  have := (insW_perm w s i).mem_iff.1 h
  rcases List.mem_cons.1 this with h | h
  · exact .inl h
  · exact .inr (List.mem_filter.1 h).1
theorem insW_len (w : Way) (s : Bs) (i : Nat) : (insW w s i).length ≤ w.length + 1 := by
  rw [(insW_perm w s i).length_eq]
  have := List.length_filter_le (fun e : Bs × Nat => e.1 != s) w
  simp
  omega
theorem find_mem {w : Way} {s : Bs} {i : Nat} (h : findW w s = some i) : (s, i) ∈ w := by
  unfold findW at h
  simp only [Option.map_eq_some_iff] at h
  obtain ⟨e, h1, h2⟩ := h
  have h3 := List.mem_of_find?_eq_some h1
  have h4 := List.find?_some h1
  have : e.1 = s := by simpa using h4
  rw [← this, ← h2]
  exact h3
theorem find_of {w : Way} {s : Bs} {i : Nat} (hn : NodupK w) (h : (s, i) ∈ w) : findW w s = some i := by
  unfold findW
  induction w with
  | nil => simp at h
  | cons e r ih =>
    simp only [NodupK, List.map_cons, List.nodup_cons] at hn
    rw [List.find?_cons]
    by_cases he : e.1 = s
    · have hb : (e.1 == s) = true := by simpa using he
      rcases List.mem_cons.1 h with h | h
      · subst h; simp
      · exact absurd (List.mem_map.2 ⟨_, h, he.symm⟩) hn.1
    · have hb : (e.1 == s) = false := by simpa using he
      rw [hb]
      rcases List.mem_cons.1 h with h | h
      · subst h; exact absurd rfl he
      · exact ih hn.2 h
/-- A map's entries and a way's. -/
theorem perm_nodup {es : List (Bs × Nat)} {w : Way} {φ : Nat → Nat} (hp : es.Perm (w.map fun e => (e.1, φ e.2))) (hw : Rising w) : NodupK es := by
  unfold NodupK
  have h1 : (es.map (·.1)).Perm (w.map (·.1)) := by
    have := hp.map (·.1)
    simpa [List.map_map, Function.comp_def] using this
  exact h1.symm.nodup hw.nodup
theorem perm_find {es : List (Bs × Nat)} {w : Way} {φ : Nat → Nat} (s : Bs) (hp : es.Perm (w.map fun e => (e.1, φ e.2))) (hw : Rising w) :
    (fI es s 0).map (·.2) = (findW w s).map φ := by
  cases hf : fI es s 0 with
  | none =>
    have h1 := fI_none.1 hf
    have : findW w s = none := by
      cases hw2 : findW w s with
      | none => rfl
      | some i =>
        have := find_mem hw2
        have h2 : (s, φ i) ∈ es := hp.mem_iff.2 (List.mem_map.2 ⟨_, this, rfl⟩)
        exact absurd rfl (h1 _ h2)
    rw [this]; rfl
  | some x =>
    obtain ⟨i, n⟩ := x
    obtain ⟨a, b, h1, _, _⟩ := fI_some hf
    have h2 : (s, n) ∈ es := by rw [h1]; simp
    obtain ⟨e, h3, h4⟩ := List.mem_map.1 (hp.mem_iff.1 h2)
    have h5 : (s, e.2) ∈ w := by
      have : e.1 = s := by simpa using congrArg Prod.fst h4
      rw [← this]; exact h3
    rw [find_of hw.nodup h5]
    simpa using (congrArg Prod.snd h4).symm
theorem upd_perm {es : List (Bs × Nat)} {w : Way} {φ : Nat → Nat} (s : Bs) (i : Nat) (hp : es.Perm (w.map fun e => (e.1, φ e.2))) (hw : Rising w) :
    (updM es s (φ i)).Perm ((insW w s i).map fun e => (e.1, φ e.2)) := by
  refine (updM_perm s (φ i) (perm_nodup hp hw)).trans ?_
  refine List.Perm.trans ?_ ((insW_perm w s i).map _).symm
  simp only [List.map_cons]
  refine List.Perm.cons _ ?_
  have h1 := hp.filter (fun e => e.1 != s)
  rw [List.filter_map] at h1
  exact h1
theorem del_perm {es : List (Bs × Nat)} {w : Way} {φ : Nat → Nat} (s : Bs) (hp : es.Perm (w.map fun e => (e.1, φ e.2))) (hw : Rising w) :
    (delM es s).Perm ((delW w s).map fun e => (e.1, φ e.2)) := by
  rw [delM_eq s (perm_nodup hp hw)]
  have h1 := hp.filter (fun e => e.1 != s)
  rw [List.filter_map] at h1
  exact h1

/-- The names, sorted. -/
theorem sorted_names {es : List (Bs × Nat)} {w : Way} {φ : Nat → Nat} (hp : es.Perm (w.map fun e => (e.1, φ e.2))) (hw : Rising w) :
    (es.map (·.1)).mergeSort (fun x y => decide (x ≤ y)) = w.map (·.1) := by
  have h1 : (es.map (·.1)).Perm (w.map (·.1)) := by
    have := hp.map (·.1)
    simpa [List.map_map, Function.comp_def] using this
  have h2 : ((es.map (·.1)).mergeSort (fun x y => decide (x ≤ y))).Pairwise (fun a b => a ≤ b) := by
    have := List.pairwise_mergeSort (le := fun x y : Bs => decide (x ≤ y)) (fun a b c hab hbc => by
      simp only [decide_eq_true_eq] at *
      exact List.le_trans hab hbc) (fun a b => by
      simp only [Bool.or_eq_true, decide_eq_true_eq]
      exact List.le_total a b) (es.map (·.1))
    exact this.imp fun h => by simpa using h
  have h3 : (w.map (·.1)).Pairwise (fun a b => a ≤ b) := by
    rw [List.pairwise_map]
    exact hw.imp fun h => by
      simp only [ltB, decide_eq_true_eq] at h
      exact List.le_of_lt h
  refine List.Perm.eq_of_pairwise (fun a b _ _ hab hba => List.le_antisymm hab hba) h2 h3 ((List.mergeSort_perm _ _).trans h1)

end Ab
end Go.Proofs.YtmbbnoipoifhhaaGreatDoor
