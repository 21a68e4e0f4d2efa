/-
  DERIVED. TEXTS as lists of bytes, in plain Lean: words, lines, commands.
  Conditions: none of a program's.
-/
import Derived.Lib.IndexMore
import Derived.Lib.TrimByte
import Derived.Lib.SlTrimSet
import Derived.Laws.Strings
set_option linter.all false
set_option maxHeartbeats 4000000
namespace Go.Proofs.YtfkffpcnknlbhaaDoor
namespace Ab
open Go

abbrev Bs := List UInt8
def ba (l : Bs) : ByteArray := ⟨l.toArray⟩
@[simp] theorem ba_data (l : Bs) : (ba l).data.toList = l := rfl
@[simp] theorem ba_arr (l : Bs) : (ba l).data = l.toArray := rfl
@[simp] theorem ba_size (l : Bs) : (ba l).size = l.length := by simp [ba, ByteArray.size]
theorem ba_list (l : Bs) : (ba l).toList = l := by
  rw [ByteArray.toList_eq]; rfl
theorem ba_of (s : ByteArray) : s = ba s.data.toList := rfl
theorem ba_cut (l : Bs) (i j : Nat) : (ba l).extract i j = ba ((l.drop i).take (j - i)) := by
  apply ByteArray.ext
  simp [ba, ByteArray.data_extract, List.extract]

/-- Up to a byte, and behind it. -/
def hd (c : UInt8) (l : Bs) : Bs := l.takeWhile (· != c)
def tl (c : UInt8) (l : Bs) : Bs := (l.dropWhile (· != c)).drop 1

theorem index_one (c : UInt8) : ∀ l : Bs, Lib.index l [c] = if l.contains c then ((hd c l).length : Int) else -1
  | [] => rfl
  | b :: l => by
    unfold Lib.index
    rw [index_one c l]
    by_cases h : b = c
    · subst h
      simp [hd, List.isPrefixOf]
    · have h1 : (c == b) = false := by simp [Ne.symm h]
      have h2 : (b != c) = true := by simp [h]
      by_cases hc : l.contains c = true
      · have : (b :: l).contains c = true := by simp at hc ⊢; exact .inr hc
        simp only [List.isPrefixOf, h1, Bool.false_and, Bool.false_eq_true, if_false, hc, if_true, this, hd, List.takeWhile_cons, h2, List.length_cons]
        rw [if_neg (by simp)]
        simp
      · have : (b :: l).contains c = false := by simp at hc ⊢; exact ⟨Ne.symm h, hc⟩
        simp only [List.isPrefixOf, h1, Bool.false_and, Bool.false_eq_true, if_false, hc, this]
        rfl

theorem hd_tl (c : UInt8) : ∀ l : Bs, l.contains c = true → l = hd c l ++ c :: tl c l
  | [], h => by simp at h
  | b :: l, h => by
    by_cases hb : b = c
    · subst hb
      simp [hd, tl]
    · have h2 : (b != c) = true := by simp [hb]
      have hl : l.contains c = true := by
        simp at h ⊢
        rcases h with h | h
        · exact absurd h.symm hb
        · exact h
      have := hd_tl c l hl
      simp only [hd, tl, List.takeWhile_cons, List.dropWhile_cons, h2, if_true, List.cons_append]
      congr 1
theorem hd_none (c : UInt8) : ∀ l : Bs, l.contains c = false → hd c l = l ∧ tl c l = []
  | [], _ => ⟨rfl, rfl⟩
  | b :: l, h => by
    have hb : ¬ b = c := by rintro rfl; simp at h
    have h2 : (b != c) = true := by simp [hb]
    have hl : l.contains c = false := by simp at h ⊢; exact h.2
    have := hd_none c l hl
    simp only [hd, tl, List.takeWhile_cons, List.dropWhile_cons, h2, if_true]
    exact ⟨by rw [show l.takeWhile (· != c) = l from this.1], this.2⟩

theorem cut_one (c : UInt8) (l : Bs) : Lib.cut l [c] = (hd c l, tl c l, l.contains c) := by
  unfold Lib.cut
  rw [index_one]
  cases hc : l.contains c
  · have := hd_none c l hc
    simp [this]
  · have := hd_tl c l hc
    simp only [if_true]
    rw [if_pos (by omega)]
    obtain ⟨a, ha⟩ : ∃ a, hd c l = a := ⟨_, rfl⟩
    obtain ⟨b, hb⟩ : ∃ b, tl c l = b := ⟨_, rfl⟩
    rw [ha, hb] at this ⊢
    subst this
    simp

theorem tl_lt (c : UInt8) (l : Bs) (h : l ≠ []) : (tl c l).length < l.length := by
  cases hc : l.contains c
  · rw [(hd_none c l hc).2]; exact List.length_pos_iff.2 h
  · have := congrArg List.length (hd_tl c l hc)
    simp at this
    omega

end Ab
end Go.Proofs.YtfkffpcnknlbhaaDoor
