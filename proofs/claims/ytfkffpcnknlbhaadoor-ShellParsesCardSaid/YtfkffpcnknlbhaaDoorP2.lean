/-
  DERIVED. COMMANDS in plain Lean: what a script of a text is.
  Conditions: none of a program's.
-/
import Derived.Test.YtfkffpcnknlbhaaDoorP1
set_option linter.all false
set_option maxHeartbeats 4000000
namespace Go.Proofs.YtfkffpcnknlbhaaDoor
namespace Ab
open Go

def blanks (l : Bs) : Bs := l.dropWhile (· == 32)
/-- The next word, and what stands behind it (with the blank that ends it). -/
def nxW (l : Bs) : Bs := (blanks l).takeWhile (· != 32)
def nxR (l : Bs) : Bs := (blanks l).dropWhile (· != 32)
/-- All words that are left. -/
def wordsF : Nat → Bs → List Bs
  | 0, _ => []
  | n + 1, l => if nxW l = [] then [] else nxW l :: wordsF n (nxR l)
def wordsOf (l : Bs) : List Bs := wordsF l.length l
/-- Without blanks at its ends. -/
def trim (l : Bs) : Bs := Lib.trimS l [32]
def digits (l : Bs) : Bool := l.all fun b => decide (48 ≤ b.toNat) && decide (b.toNat ≤ 57)
/-- Is a word of a kind? -/
def fitsW (k : UInt8) (w : Bs) : Bool := !w.isEmpty && (if k = 68 then decide (w.length ≤ 4) && digits w else decide (w.length ≤ 32))
/-- The further words of a command. -/
def readArgs : Bs → Bs → Option (List Bs)
  | [], l => if trim l = [] then some [] else none
  | k :: ks, l =>
    if k = 86 then (if trim l = [] then none else some [trim l])
    else if k = 87 then some (wordsOf l)
    else if fitsW k (nxW l) then (readArgs ks (nxR l)).map (nxW l :: ·) else none

/-- The shapes of the commands. -/
def shapes : List (Bs × Bs) := [
  ([97, 108, 108], []), ([116, 111, 108, 100], []), ([99, 114, 97, 115, 104], []), ([108, 97, 115, 116], []), ([104, 97, 108, 116, 101, 100], []),
  ([115, 99, 104, 101, 109, 97], [86]), ([113, 117, 101, 114, 121], [86]), ([112, 108, 97, 110], [86]),
  ([111, 112, 101, 110], [68, 68]), ([102, 97, 105, 108], [68, 68]), ([114, 101, 106, 111, 105, 110], [68, 68]),
  ([99, 97, 108, 108], [68, 68, 78, 87]), ([103, 111], [68]), ([115, 117, 109, 115], [68]),
  ([100, 97, 116, 97], [78]), ([99, 104, 101, 99, 107], [78]), ([99, 111, 115, 116], [78]),
  ([114, 111, 117, 116, 101], [78, 87]), ([112, 97, 114, 116], [68, 78])]
def shapeOf (w : Bs) : Option Bs := (shapes.find? fun x => x.1 == w).map (·.2)

/-- A line: none: it can't be; some none: no command. -/
def parseL (l : Bs) : Option (Option (Bs × List Bs)) :=
  if nxW l = [] then some none else if (nxW l).head? = some 35 then some none
  else match shapeOf (nxW l) with
    | none => none
    | some ks => match readArgs ks (nxR l) with
      | none => none
      | some a => some (some (nxW l, a))

structure Say where
  line : Int
  word : Bs
  args : List Bs

/-- A script's commands. -/
def scriptS : List Bs → Nat → List Say → List Say × Int × Int
  | [], _, acc => (acc, 0, 0)
  | x :: r, n, acc => match parseL x with
    | none => ([], n, 300)
    | some none => scriptS r (n + 1) acc
    | some (some (w, a)) => if 300 ≤ acc.length then ([], n, 300) else scriptS r (n + 1) (acc ++ [⟨n, w, a⟩])
def linesF : Nat → Bs → List Bs
  | 0, _ => []
  | n + 1, l => if l = [] then [] else hd 10 l :: linesF n (tl 10 l)
def linesOf (l : Bs) : List Bs := linesF l.length l
def answer (l : Bs) : List Say × Int × Int := if 131072 < l.length then ([], 0, 2) else scriptS (linesOf l) 1 []

/-- A blank ahead of a text turns nothing. -/
theorem blanks_cons (l : Bs) : blanks (32 :: l) = blanks l := by simp [blanks]
theorem nxW_cons (l : Bs) : nxW (32 :: l) = nxW l := by unfold nxW; rw [blanks_cons]
theorem nxR_cons (l : Bs) : nxR (32 :: l) = nxR l := by unfold nxR; rw [blanks_cons]

theorem nxR_form (l : Bs) : nxR l = [] ∨ ∃ r, nxR l = 32 :: r := by
  unfold nxR
  generalize blanks l = m
  induction m with
  | nil => exact .inl rfl
  | cons b m ih =>
    by_cases h : b = 32
    · subst h; exact .inr ⟨m, by simp⟩
    · have : (b != 32) = true := by simp [h]
      simp only [List.dropWhile_cons, this, if_true]
      exact ih

theorem blanks_le (l : Bs) : (blanks l).length ≤ l.length := by
  unfold blanks
  exact (List.dropWhile_suffix _).length_le
theorem nxR_lt (l : Bs) (h : nxW l ≠ []) : (nxR l).length < l.length := by
  have h1 := blanks_le l
  have h2 : blanks l = nxW l ++ nxR l := (List.takeWhile_append_dropWhile).symm
  have h3 := congrArg List.length h2
  have h4 : 0 < (nxW l).length := List.length_pos_iff.2 h
  simp at h3
  omega

theorem wordsF_fuel : ∀ (n m : Nat) (l : Bs), l.length ≤ n → l.length ≤ m → wordsF n l = wordsF m l
  | 0, m, l, h, _ => by
    obtain rfl : l = [] := List.length_eq_zero_iff.1 (by omega)
    cases m <;> simp [wordsF, nxW, blanks]
  | n + 1, 0, l, _, h => by
    obtain rfl : l = [] := List.length_eq_zero_iff.1 (by omega)
    simp [wordsF, nxW, blanks]
  | n + 1, m + 1, l, h1, h2 => by
    unfold wordsF
    by_cases h : nxW l = []
    · simp [h]
    · have := nxR_lt l h
      simp only [h, if_false]
      rw [wordsF_fuel n m (nxR l) (by omega) (by omega)]
theorem wordsOf_step (l : Bs) : wordsOf l = if nxW l = [] then [] else nxW l :: wordsOf (nxR l) := by
  unfold wordsOf
  cases hl : l.length with
  | zero =>
    obtain rfl : l = [] := List.length_eq_zero_iff.1 hl
    simp [wordsF, nxW, blanks]
  | succ n =>
    show (if nxW l = [] then [] else nxW l :: wordsF n (nxR l)) = _
    by_cases h : nxW l = []
    · simp [h]
    · have := nxR_lt l h
      simp only [h, if_false]
      rw [wordsF_fuel n (nxR l).length (nxR l) (by omega) (by omega)]
theorem wordsOf_cons (l : Bs) : wordsOf (32 :: l) = wordsOf l := by
  rw [wordsOf_step, wordsOf_step l, nxW_cons, nxR_cons]

theorem drop_all {p : UInt8 → Bool} : ∀ {l : Bs}, (∀ x ∈ l, p x = true) → l.dropWhile p = []
  | [], _ => rfl
  | b :: l, h => by
    rw [List.dropWhile_cons, if_pos (h b List.mem_cons_self)]
    exact drop_all fun x hx => h x (List.mem_cons_of_mem _ hx)
theorem trim_cons (l : Bs) : trim (32 :: l) = trim l := by
  unfold trim
  rw [Lib.trimS_one, Lib.trimS_one]
  unfold Lib.trimB Lib.trimRightB Lib.trimLeftB
  rw [List.reverse_cons]
  by_cases h : l.reverse.all (· == 32) = true
  · have e1 : l.reverse.dropWhile (· == 32) = [] := by
      exact drop_all (List.all_eq_true.1 h)
    have e2 : (l.reverse ++ [32]).dropWhile (· == 32) = [] := by
      refine drop_all fun x hx => ?_
      rcases List.mem_append.1 hx with hx | hx
      · exact List.all_eq_true.1 h x hx
      · simp at hx; subst hx; rfl
    rw [e1, e2]
  · have : ∃ x ∈ l.reverse, (x == 32) = false := by
      simpa using h
    have e : ∀ m : Bs, (∃ x ∈ m, (x == 32) = false) → (m ++ [32]).dropWhile (· == 32) = m.dropWhile (· == 32) ++ [32] := by
      intro m
      induction m with
      | nil => rintro ⟨x, hx, _⟩; cases hx
      | cons b m ih =>
        rintro ⟨x, hx, hn⟩
        by_cases hb : (b == 32) = true
        · simp only [List.cons_append, List.dropWhile_cons, hb, if_true]
          refine ih ?_
          rcases List.mem_cons.1 hx with rfl | hx
          · rw [hb] at hn; cases hn
          · exact ⟨x, hx, hn⟩
        · simp only [List.cons_append, List.dropWhile_cons, hb]
          simp
    rw [e _ this, List.reverse_append]
    simp
theorem readArgs_cons : ∀ (ks l : Bs), readArgs ks (32 :: l) = readArgs ks l
  | [], l => by simp only [readArgs, trim_cons]
  | k :: ks, l => by simp only [readArgs, trim_cons, wordsOf_cons, nxW_cons, nxR_cons]
/-- What the program hands on behind a word: without the blank. -/
theorem readArgs_tl (ks l : Bs) : readArgs ks ((nxR l).drop 1) = readArgs ks (nxR l) := by
  rcases nxR_form l with h | ⟨r, h⟩
  · rw [h]; rfl
  · rw [h, readArgs_cons]; rfl

end Ab
end Go.Proofs.YtfkffpcnknlbhaaDoor
