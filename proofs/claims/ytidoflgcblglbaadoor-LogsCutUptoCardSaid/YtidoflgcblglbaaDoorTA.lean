/-
  DERIVED. RECORDS and LOGS in plain Lean: what can be, what is the same, how many of each log count.
  Conditions: none of a program's.
-/
import Derived.Test.YtidoflgcblglbaaDoorAbG
set_option linter.all false
set_option maxHeartbeats 4000000
namespace Go.Proofs.YtidoflgcblglbaaDoor
namespace Ab
set_option linter.all false

structure Val where
  t : Int
  n : Int
  s : ByteArray
structure Rec where
  id : Nat
  client : Nat
  seq : Nat
  parts : List Int
  proc : ByteArray
  args : List Val
/-- A value without what its type does not name. -/
def Val.plain (v : Val) : Val := if v.t = 1 ∨ v.t = 2 ∨ v.t = 4 then ⟨v.t, v.n, ByteArray.empty⟩ else if v.t = 3 then ⟨v.t, 0, v.s⟩ else ⟨v.t, 0, ByteArray.empty⟩
def sameVal (a b : Val) : Prop := a.plain = b.plain
def sameArgs : List Val → List Val → Prop
  | [], [] => True
  | a :: l, b :: m => a.plain = b.plain ∧ sameArgs l m
  | _, _ => False
def sameRec (a b : Rec) : Prop := a.id = b.id ∧ a.client = b.client ∧ a.seq = b.seq ∧ a.proc = b.proc ∧ a.parts = b.parts ∧ a.args.map Val.plain = b.args.map Val.plain
theorem sameRec.refl (a : Rec) : sameRec a a := ⟨rfl, rfl, rfl, rfl, rfl, rfl⟩
theorem sameRec.symm {a b : Rec} (h : sameRec a b) : sameRec b a := ⟨h.1.symm, h.2.1.symm, h.2.2.1.symm, h.2.2.2.1.symm, h.2.2.2.2.1.symm, h.2.2.2.2.2.symm⟩
theorem sameRec.trans {a b c : Rec} (h : sameRec a b) (g : sameRec b c) : sameRec a c := ⟨h.1.trans g.1, h.2.1.trans g.2.1, h.2.2.1.trans g.2.2.1, h.2.2.2.1.trans g.2.2.2.1, h.2.2.2.2.1.trans g.2.2.2.2.1, h.2.2.2.2.2.trans g.2.2.2.2.2⟩

abbrev Logs := List (List Rec)
def findId (l : List Rec) (id : Nat) : Option Nat := l.findIdx? fun r => r.id == id
def hasId (l : List Rec) (id : Nat) : Bool := l.any fun r => r.id == id
/-- Do the numbers of a log rise? -/
def Rising (l : List Rec) : Prop := ∀ (k : Nat) (a b : Rec), l[k]? = some a → l[k + 1]? = some b → a.id < b.id
/-- What logs must be, each record being one that can be. -/
structure Fits (logs : Logs) : Prop where
  rise : ∀ (i : Nat) (l : List Rec), logs[i]? = some l → Rising l
  own : ∀ (i : Nat) (l : List Rec) (r : Rec), logs[i]? = some l → r ∈ l → (i : Int) ∈ r.parts
  last : ∀ (i : Nat) (l : List Rec) (r : Rec), logs[i]? = some l → r ∈ l → ∀ p ∈ r.parts, 0 ≤ p ∧ p < logs.length
  same : ∀ (i j : Nat) (l m : List Rec) (a b : Rec), logs[i]? = some l → logs[j]? = some m → a ∈ l → b ∈ m → a.id = b.id → sameRec a b

theorem Rising.lt {l : List Rec} (h : Rising l) : ∀ {d k : Nat} {a b : Rec}, l[k]? = some a → l[k + d + 1]? = some b → a.id < b.id
  | 0, k, a, b, h1, h2 => h k a b h1 h2
  | d + 1, k, a, b, h1, h2 => by
    obtain ⟨c, hc⟩ : ∃ c, l[k + d + 1]? = some c := ⟨_, List.getElem?_eq_getElem (by have := (List.getElem?_eq_some_iff.1 h2).1; omega)⟩
    exact Nat.lt_trans (h.lt h1 hc) (h (k + d + 1) c b hc h2)
theorem Rising.inj {l : List Rec} (h : Rising l) {i j : Nat} {a b : Rec} (hi : l[i]? = some a) (hj : l[j]? = some b) (e : a.id = b.id) : i = j := by
  rcases Nat.lt_trichotomy i j with h1 | h1 | h1
  · obtain ⟨d, rfl⟩ : ∃ d, j = i + d + 1 := ⟨j - i - 1, by omega⟩
    have := h.lt hi hj
    omega
  · exact h1
  · obtain ⟨d, rfl⟩ : ∃ d, i = j + d + 1 := ⟨i - j - 1, by omega⟩
    have := h.lt hj hi
    omega
theorem Rising.mono {l : List Rec} (h : Rising l) {i j : Nat} {a b : Rec} (hi : l[i]? = some a) (hj : l[j]? = some b) (e : a.id < b.id) : i < j := by
  rcases Nat.lt_trichotomy i j with h1 | h1 | h1
  · exact h1
  · subst h1; rw [hi] at hj; cases hj; omega
  · obtain ⟨d, rfl⟩ : ∃ d, i = j + d + 1 := ⟨i - j - 1, by omega⟩
    have := h.lt hj hi
    omega
theorem hasId_iff {l : List Rec} {id : Nat} : hasId l id = true ↔ ∃ r ∈ l, r.id = id := by simp [hasId]
theorem has_take {l : List Rec} {id n : Nat} : hasId (l.take n) id = true ↔ ∃ k r, k < n ∧ l[k]? = some r ∧ r.id = id := by
  rw [hasId_iff]
  constructor
  · rintro ⟨r, hr, h⟩
    obtain ⟨k, hk⟩ := List.mem_iff_getElem?.1 hr
    have hk2 := (List.getElem?_eq_some_iff.1 hk).1
    rw [List.length_take] at hk2
    rw [List.getElem?_take_of_lt (by omega)] at hk
    exact ⟨k, r, by omega, hk, h⟩
  · rintro ⟨k, r, h1, h2, h3⟩
    refine ⟨r, List.mem_iff_getElem?.2 ⟨k, ?_⟩, h3⟩
    rw [List.getElem?_take_of_lt h1]
    exact h2

/- How many count. -/
def logAt (logs : Logs) (p : Nat) : List Rec := (logs[p]?).getD []
def nAt (n : List Nat) (p : Nat) : Nat := (n[p]?).getD 0
def cntR (logs : Logs) (n : List Nat) (r : Rec) : Bool := r.parts.all fun p => hasId ((logAt logs p.toNat).take (nAt n p.toNat)) r.id
/-- The first record of log i that does not count. -/
def failI (logs : Logs) (n : List Nat) (i : Nat) : Option Nat := ((logAt logs i).take (nAt n i)).findIdx? fun r => !cntR logs n r
def cutI (logs : Logs) (n : List Nat) (i : Nat) : List Nat := match failI logs n i with
  | some k => n.set i k
  | none => n
def cutTo (logs : Logs) (n : List Nat) : Nat → List Nat
  | 0 => n
  | i + 1 => cutI logs (cutTo logs n i) i
theorem cutI_len (logs : Logs) (n : List Nat) (i : Nat) : (cutI logs n i).length = n.length := by unfold cutI; split <;> simp
theorem cutTo_len (logs : Logs) (n : List Nat) : ∀ i, (cutTo logs n i).length = n.length
  | 0 => rfl
  | i + 1 => by rw [cutTo, cutI_len, cutTo_len logs n i]
theorem failI_lt {logs : Logs} {n : List Nat} {i k : Nat} (h : failI logs n i = some k) : k < nAt n i ∧ ∃ r, (logAt logs i)[k]? = some r ∧ cntR logs n r = false := by
  unfold failI at h
  obtain ⟨h1, h2, _⟩ := List.findIdx?_eq_some_iff_getElem.1 h
  have h3 := h1
  rw [List.length_take] at h3
  refine ⟨by omega, _, List.getElem?_eq_getElem (by omega), ?_⟩
  rw [List.getElem_take] at h2
  simpa using h2
theorem nAt_set {n : List Nat} {i k p : Nat} : nAt (n.set i k) p = if p = i ∧ i < n.length then k else nAt n p := by
  unfold nAt
  rw [List.getElem?_set]
  by_cases h : i = p
  · subst h
    by_cases h2 : i < n.length
    · simp [h2]
    · simp [h2]
  · rw [if_neg h, if_neg (fun e => h e.1.symm)]
theorem nAt_lt {n : List Nat} {i k : Nat} (h : k < nAt n i) : i < n.length := by
  unfold nAt at h
  by_cases h2 : i < n.length
  · exact h2
  · rw [List.getElem?_eq_none (by omega)] at h
    simp at h
theorem cutI_le (logs : Logs) (n : List Nat) (i p : Nat) : nAt (cutI logs n i) p ≤ nAt n p := by
  unfold cutI
  split
  · rename_i k hk
    have h1 := (failI_lt hk).1
    rw [nAt_set]
    split
    · rename_i h; rw [h.1]; omega
    · exact Nat.le_refl _
  · exact Nat.le_refl _
theorem cutTo_le (logs : Logs) (n : List Nat) : ∀ i p, nAt (cutTo logs n i) p ≤ nAt n p
  | 0, p => Nat.le_refl _
  | i + 1, p => Nat.le_trans (cutI_le _ _ _ _) (cutTo_le logs n i p)
theorem sum_set : ∀ {n : List Nat} {i k : Nat}, k < nAt n i → (n.set i k).sum < n.sum
  | [], i, k, h => by simp [nAt] at h
  | x :: n, 0, k, h => by simp [nAt] at h; simp; omega
  | x :: n, i + 1, k, h => by
    have := sum_set (n := n) (i := i) (k := k) (by simpa [nAt] using h)
    simp
    omega
theorem cutI_sum (logs : Logs) (n : List Nat) (i : Nat) : cutI logs n i = n ∨ (cutI logs n i).sum < n.sum := by
  unfold cutI
  split
  · rename_i k hk
    exact .inr (sum_set (failI_lt hk).1)
  · exact .inl rfl
theorem cutTo_sum (logs : Logs) (n : List Nat) : ∀ i, cutTo logs n i = n ∨ (cutTo logs n i).sum < n.sum
  | 0 => .inl rfl
  | i + 1 => by
    rw [cutTo]
    rcases cutTo_sum logs n i with h | h
    · rw [h]; exact cutI_sum logs n i
    · rcases cutI_sum logs (cutTo logs n i) i with g | g
      · rw [g]; exact .inr h
      · exact .inr (Nat.lt_trans g h)
/-- Cut until nothing is cut any more. -/
def cutF (logs : Logs) (n : List Nat) : List Nat := if h : cutTo logs n logs.length = n then n else
  have : (cutTo logs n logs.length).sum < n.sum := (cutTo_sum logs n logs.length).resolve_left h
  cutF logs (cutTo logs n logs.length)
termination_by n.sum
theorem cutF_stop {logs : Logs} {n : List Nat} (h : cutTo logs n logs.length = n) : cutF logs n = n := by rw [cutF, dif_pos h]
theorem cutF_step {logs : Logs} {n : List Nat} : cutF logs (cutTo logs n logs.length) = cutF logs n := by
  by_cases h : cutTo logs n logs.length = n
  · rw [h]
  · rw [cutF.eq_1 logs n, dif_neg h]
def cutAll (logs : Logs) : List Nat := cutF logs (logs.map List.length)

theorem cutF_ind {logs : Logs} {C : List Nat → Prop} (hC : ∀ n i, C n → C (cutI logs n i)) {n : List Nat} (h0 : C n) : C (cutF logs n) := by
  induction hs : n.sum using Nat.strongRecOn generalizing n with
  | _ s ih =>
    have ht : ∀ i, C (cutTo logs n i) := fun i => by
      induction i with
      | zero => exact h0
      | succ i ih => exact hC _ _ ih
    rw [cutF]
    split
    · exact h0
    · rename_i hne
      exact ih _ (by rw [← hs]; exact (cutTo_sum logs n logs.length).resolve_left hne) (ht _) rfl
theorem cutF_fix (logs : Logs) (n : List Nat) : cutTo logs (cutF logs n) logs.length = cutF logs n := by
  induction hs : n.sum using Nat.strongRecOn generalizing n with
  | _ s ih =>
    rw [cutF]
    split
    · assumption
    · rename_i hne
      exact ih _ (by rw [← hs]; exact (cutTo_sum logs n logs.length).resolve_left hne) _ rfl
theorem cutAll_len (logs : Logs) : (cutAll logs).length = logs.length := by
  have : ∀ n : List Nat, n.length = logs.length → (cutF logs n).length = logs.length := fun n h => cutF_ind (C := fun n => n.length = logs.length) (fun n i h => by rw [cutI_len, h]) h
  exact this _ (by simp)
theorem cutAll_le (logs : Logs) (i : Nat) : nAt (cutAll logs) i ≤ (logAt logs i).length := by
  refine cutF_ind (C := fun n => nAt n i ≤ (logAt logs i).length) (fun n j h => Nat.le_trans (cutI_le _ _ _ _) h) ?_
  unfold nAt logAt
  rw [List.getElem?_map]
  cases logs[i]? <;> simp
/-- What counts is closed. -/
theorem cutAll_closed (logs : Logs) {i k : Nat} {r : Rec} (hk : k < nAt (cutAll logs) i) (hr : (logAt logs i)[k]? = some r) : cntR logs (cutAll logs) r = true := by
  have hfix := cutF_fix logs (logs.map List.length)
  have hi : i < logs.length := by have := nAt_lt hk; rwa [cutAll_len] at this
  -- no log is cut
  have hst : ∀ j, j ≤ logs.length → cutTo logs (cutAll logs) j = cutAll logs := by
    intro j hj
    have hmon : ∀ d, (cutTo logs (cutAll logs) (j + d)).sum ≤ (cutTo logs (cutAll logs) j).sum := by
      intro d
      induction d with
      | zero => exact Nat.le_refl _
      | succ d ih =>
        rw [show j + (d + 1) = (j + d) + 1 by omega, cutTo]
        rcases cutI_sum logs (cutTo logs (cutAll logs) (j + d)) (j + d) with g | g
        · rw [g]; exact ih
        · omega
    have := hmon (logs.length - j)
    rw [show j + (logs.length - j) = logs.length by omega] at this
    rcases cutTo_sum logs (cutAll logs) j with h | h
    · exact h
    · have e : cutTo logs (cutAll logs) logs.length = cutAll logs := hfix
      rw [e] at this
      omega
  have h1 := hst (i + 1) hi
  rw [cutTo, hst i (Nat.le_of_lt hi)] at h1
  unfold cutI at h1
  split at h1
  · rename_i k' hk'
    have h2 := (failI_lt hk').1
    have h3 := sum_set h2
    rw [h1] at h3
    omega
  · rename_i hn
    unfold failI at hn
    rw [List.findIdx?_eq_none_iff] at hn
    have := hn r (List.mem_iff_getElem?.2 ⟨k, by rw [List.getElem?_take_of_lt hk]; exact hr⟩)
    simpa using this

end Ab
end Go.Proofs.YtidoflgcblglbaaDoor

/-
  DERIVED. The ORDER of logs in plain Lean: sorted by number, or the least of all heads again and again: the same.
  Conditions: none of a program's.
-/
namespace Go.Proofs.YtidoflgcblglbaaDoor
namespace Ab
set_option linter.all false

/-- A record that counts. -/
def Cnt (logs : Logs) (n : List Nat) (r : Rec) : Prop := ∃ i k, k < nAt n i ∧ (logAt logs i)[k]? = some r
/-- The log with the least head. -/
def headId (logs : Logs) (at_ : List Nat) (i : Nat) : Nat := (((logAt logs i)[nAt at_ i]?).map Rec.id).getD 0
def bestTo (logs : Logs) (n at_ : List Nat) : Nat → Option Nat
  | 0 => none
  | i + 1 => if nAt at_ i < nAt n i then (match bestTo logs n at_ i with
      | none => some i
      | some b => if headId logs at_ i < headId logs at_ b then some i else some b) else bestTo logs n at_ i
theorem best_none {logs : Logs} {n at_ : List Nat} : ∀ {j : Nat}, bestTo logs n at_ j = none → ∀ i, i < j → nAt n i ≤ nAt at_ i
  | 0, _, i, h => by omega
  | j + 1, hb, i, h => by
    rw [bestTo] at hb
    split at hb
    · split at hb
      · cases hb
      · split at hb <;> cases hb
    · rename_i hn
      by_cases e : i = j
      · subst e; omega
      · exact best_none hb i (by omega)
theorem best_some {logs : Logs} {n at_ : List Nat} : ∀ {j b : Nat}, bestTo logs n at_ j = some b → b < j ∧ nAt at_ b < nAt n b ∧ ∀ i, i < j → nAt at_ i < nAt n i → headId logs at_ b ≤ headId logs at_ i
  | 0, b, h => by cases h
  | j + 1, b, hb => by
    rw [bestTo] at hb
    split at hb
    · rename_i hj
      split at hb
      · rename_i hn
        cases hb
        refine ⟨by omega, hj, fun i hi hlt => ?_⟩
        by_cases e : i = j
        · subst e; exact Nat.le_refl _
        · have := best_none hn i (by omega); omega
      · rename_i c hc
        obtain ⟨h1, h2, h3⟩ := best_some hc
        split at hb
        · rename_i hl
          cases hb
          refine ⟨by omega, hj, fun i hi hlt => ?_⟩
          by_cases e : i = j
          · subst e; exact Nat.le_refl _
          · exact Nat.le_trans (Nat.le_of_lt hl) (h3 i (by omega) hlt)
        · rename_i hl
          cases hb
          refine ⟨by omega, h2, fun i hi hlt => ?_⟩
          by_cases e : i = j
          · subst e; omega
          · exact h3 i (by omega) hlt
    · rename_i hn
      obtain ⟨h1, h2, h3⟩ := best_some hb
      refine ⟨by omega, h2, fun i hi hlt => ?_⟩
      by_cases e : i = j
      · subst e; omega
      · exact h3 i (by omega) hlt
/-- One place further in the logs of some partitions. -/
def bump (at_ : List Nat) : List Int → List Nat
  | [] => at_
  | p :: l => bump (at_.set p.toNat (nAt at_ p.toNat + 1)) l
theorem bump_len : ∀ (l : List Int) (a : List Nat), (bump a l).length = a.length
  | [], _ => rfl
  | p :: l, a => by rw [bump, bump_len l]; simp
theorem bump_at {q : Nat} : ∀ (l : List Int) (a : List Nat), l.Nodup → (∀ p ∈ l, 0 ≤ p ∧ p < a.length) → nAt (bump a l) q = nAt a q + if (q : Int) ∈ l then 1 else 0
  | [], a, _, _ => by simp [bump]
  | p :: l, a, hn, hl => by
    obtain ⟨h1, h2⟩ := List.nodup_cons.1 hn
    have hp := hl p List.mem_cons_self
    rw [bump, bump_at l _ h2 (fun x hx => by simpa using hl x (List.mem_cons_of_mem _ hx)), nAt_set]
    by_cases e : q = p.toNat
    · subst e
      have e2 : ((p.toNat : Nat) : Int) = p := Int.toNat_of_nonneg hp.1
      rw [if_pos ⟨rfl, by omega⟩, e2, if_neg h1, if_pos List.mem_cons_self]
    · have e2 : (q : Int) ≠ p := fun h => e (by omega)
      rw [if_neg (fun h => e h.1)]
      simp [e2]

structure Merge (logs : Logs) (n at_ : List Nat) (B : List Rec) : Prop where
  len : at_.length = logs.length
  le : ∀ i, nAt at_ i ≤ nAt n i
  mem : ∀ (i k : Nat) (r : Rec), k < nAt n i → (logAt logs i)[k]? = some r → (k < nAt at_ i ↔ ∃ b ∈ B, b.id = r.id)
  cnt : ∀ b ∈ B, Cnt logs n b
  rise : Rising B
  below : ∀ b ∈ B, ∀ (i k : Nat) (r : Rec), nAt at_ i ≤ k → k < nAt n i → (logAt logs i)[k]? = some r → b.id < r.id
theorem merge_start (logs : Logs) (n : List Nat) : Merge logs n (List.replicate logs.length 0) [] := by
  have h0 : ∀ i, nAt (List.replicate logs.length 0) i = 0 := fun i => by
    unfold nAt
    rw [List.getElem?_replicate]
    split <;> rfl
  exact ⟨by simp, fun i => by rw [h0]; omega, fun i k r h1 h2 => by rw [h0]; simp, fun b h => by simp at h, fun k a b h => by simp at h, fun b h => by simp at h⟩
theorem rising_snoc {B : List Rec} {r : Rec} (h : Rising B) (hr : ∀ b ∈ B, b.id < r.id) : Rising (B ++ [r]) := by
  intro k a b h1 h2
  have hk : k + 1 < (B ++ [r]).length := (List.getElem?_eq_some_iff.1 h2).1
  simp only [List.length_append, List.length_singleton] at hk
  rw [List.getElem?_append_left (by omega)] at h1
  by_cases e : k + 1 < B.length
  · rw [List.getElem?_append_left e] at h2
    exact h k a b h1 h2
  · rw [List.getElem?_append_right (by omega), show k + 1 - B.length = 0 by omega] at h2
    cases h2
    exact hr a (List.mem_of_getElem? h1)
theorem logAt_some {logs : Logs} {i k : Nat} {r : Rec} (h : (logAt logs i)[k]? = some r) : logs[i]? = some (logAt logs i) := by
  unfold logAt at h ⊢
  cases e : logs[i]? with
  | none => rw [e] at h; simp at h
  | some l => rfl
theorem merge_step {logs : Logs} {n at_ : List Nat} {B : List Rec} (hF : Fits logs) (hP : ∀ (i k : Nat) (r : Rec), (logAt logs i)[k]? = some r → r.parts.Nodup) (hn : n.length = logs.length) (hle : ∀ i, nAt n i ≤ (logAt logs i).length) (hC : ∀ (i k : Nat) (r : Rec), k < nAt n i → (logAt logs i)[k]? = some r → cntR logs n r = true)
    (hM : Merge logs n at_ B) {b : Nat} (hb : bestTo logs n at_ logs.length = some b) {r : Rec} (hr : (logAt logs b)[nAt at_ b]? = some r) :
    Merge logs n (bump at_ r.parts) (B ++ [r]) ∧ ∀ p ∈ r.parts, 0 ≤ p ∧ p < logs.length := by
  obtain ⟨b1, b2, b3⟩ := best_some hb
  have hrm : r ∈ logAt logs b := List.mem_of_getElem? hr
  have hpar := hF.last b _ r (logAt_some hr) hrm
  have hnd := hP b _ r hr
  have hid : headId logs at_ b = r.id := by unfold headId; rw [hr]; rfl
  have hnot : ¬ ∃ x ∈ B, x.id = r.id := fun h => by
    have := (hM.mem b _ r b2 hr).2 h
    omega
  have hlt : ∀ x ∈ B, x.id < r.id := fun x hx => hM.below x hx b _ r (Nat.le_refl _) b2 hr
  -- the heads
  have hge : ∀ (i k : Nat) (x : Rec), nAt at_ i ≤ k → k < nAt n i → (logAt logs i)[k]? = some x → r.id ≤ x.id ∧ (nAt at_ i < k → r.id < x.id) := by
    intro i k x h1 h2 h3
    have hi : i < logs.length := by have := nAt_lt h2; omega
    have hb3 := b3 i hi (by omega)
    obtain ⟨y, hy⟩ : ∃ y, (logAt logs i)[nAt at_ i]? = some y := ⟨_, List.getElem?_eq_getElem (by have := hle i; omega)⟩
    have hyi : headId logs at_ i = y.id := by unfold headId; rw [hy]; rfl
    rw [hid, hyi] at hb3
    have hR := hF.rise i _ (logAt_some h3)
    by_cases e : nAt at_ i = k
    · subst e
      rw [hy] at h3; cases h3
      exact ⟨hb3, fun h => by omega⟩
    · obtain ⟨d, rfl⟩ : ∃ d, k = nAt at_ i + d + 1 := ⟨k - nAt at_ i - 1, by omega⟩
      have := hR.lt hy h3
      exact ⟨by omega, fun _ => by omega⟩
  have hin : ∀ p : Nat, (p : Int) ∈ r.parts → nAt at_ p < nAt n p ∧ ∀ x : Rec, (logAt logs p)[nAt at_ p]? = some x → x.id = r.id := by
    intro p hp
    have h1 := hC b _ r b2 hr
    unfold cntR at h1
    rw [List.all_eq_true] at h1
    have h2 := h1 p hp
    rw [Int.toNat_natCast, has_take] at h2
    obtain ⟨k, x, k1, k2, k3⟩ := h2
    have hk : nAt at_ p ≤ k := by
      rcases Nat.lt_or_ge k (nAt at_ p) with h | h
      · obtain ⟨y, hy, e⟩ := (hM.mem p k x k1 k2).1 h
        exact absurd ⟨y, hy, by rw [e, k3]⟩ hnot
      · exact h
    refine ⟨by omega, fun y hy => ?_⟩
    have h3 := hge p k x hk k1 k2
    rcases Nat.lt_or_eq_of_le hk with h | h
    · have := h3.2 h; omega
    · rw [← h, hy] at k2; cases k2; exact k3
  have hout : ∀ (p k : Nat) (x : Rec), k < nAt n p → (logAt logs p)[k]? = some x → x.id = r.id → (p : Int) ∈ r.parts := by
    intro p k x h1 h2 h3
    have hs := hF.same p b _ _ x r (logAt_some h2) (logAt_some hr) (List.mem_of_getElem? h2) hrm h3
    rw [← hs.2.2.2.2.1]
    exact hF.own p _ x (logAt_some h2) (List.mem_of_getElem? h2)
  have hbump : ∀ q, nAt (bump at_ r.parts) q = nAt at_ q + if (q : Int) ∈ r.parts then 1 else 0 := fun q => bump_at _ _ hnd fun p hp => by rw [hM.len]; exact hpar p hp
  refine ⟨⟨by rw [bump_len, hM.len], fun i => ?_, fun i k x h1 h2 => ?_, fun x hx => ?_, rising_snoc hM.rise hlt, fun x hx i k y h1 h2 h3 => ?_⟩, hpar⟩
  · rw [hbump]
    split
    · rename_i h; have := (hin i h).1; omega
    · exact hM.le i
  · rw [hbump]
    have h3 := hM.mem i k x h1 h2
    by_cases hp : (i : Int) ∈ r.parts
    · rw [if_pos hp]
      obtain ⟨y, hy⟩ : ∃ y, (logAt logs i)[nAt at_ i]? = some y := ⟨_, List.getElem?_eq_getElem (by have := hle i; have := (hin i hp).1; omega)⟩
      have hyi := (hin i hp).2 y hy
      constructor
      · intro h
        rcases Nat.lt_or_eq_of_le (Nat.le_of_lt_succ h) with h4 | h4
        · obtain ⟨c, hc, e⟩ := h3.1 h4
          exact ⟨c, List.mem_append_left _ hc, e⟩
        · rw [h4, hy] at h2; cases h2
          exact ⟨r, by simp, hyi.symm⟩
      · rintro ⟨c, hc, e⟩
        rcases List.mem_append.1 hc with hc | hc
        · have := h3.2 ⟨c, hc, e⟩; omega
        · rw [List.mem_singleton.1 hc] at e
          have := (hF.rise i _ (logAt_some h2)).inj h2 hy (by omega)
          omega
    · rw [if_neg hp, Nat.add_zero, h3]
      constructor
      · rintro ⟨c, hc, e⟩; exact ⟨c, List.mem_append_left _ hc, e⟩
      · rintro ⟨c, hc, e⟩
        rcases List.mem_append.1 hc with hc | hc
        · exact ⟨c, hc, e⟩
        · rw [List.mem_singleton.1 hc] at e
          exact absurd (hout i k x h1 h2 e.symm) hp
  · rcases List.mem_append.1 hx with hx | hx
    · exact hM.cnt x hx
    · rw [List.mem_singleton.1 hx]; exact ⟨b, _, b2, hr⟩
  · rw [hbump] at h1
    rcases List.mem_append.1 hx with hx | hx
    · exact hM.below x hx i k y (by omega) h2 h3
    · rw [List.mem_singleton.1 hx]
      have h4 := hge i k y (by omega) h2 h3
      by_cases hp : (i : Int) ∈ r.parts
      · rw [if_pos hp] at h1; exact h4.2 (by omega)
      · rcases Nat.lt_or_eq_of_le h4.1 with h5 | h5
        · exact h5
        · exact absurd (hout i k y h2 h3 h5.symm) hp
theorem merge_end {logs : Logs} {n at_ : List Nat} {B : List Rec} (hn : n.length = logs.length) (hM : Merge logs n at_ B) (hb : bestTo logs n at_ logs.length = none) {r : Rec} (hr : Cnt logs n r) : ∃ b ∈ B, b.id = r.id := by
  obtain ⟨i, k, h1, h2⟩ := hr
  have hi : i < logs.length := by have := nAt_lt h1; omega
  have := best_none hb i hi
  exact (hM.mem i k r h1 h2).1 (by omega)

/-- All that count, each at its first partition. -/
def firsts (logs : Logs) (n : List Nat) : Nat → List Rec
  | 0 => []
  | i + 1 => firsts logs n i ++ ((logAt logs i).take (nAt n i)).filter fun r => r.parts.head? == some (i : Int)
theorem firsts_mem {logs : Logs} {n : List Nat} {r : Rec} : ∀ {j : Nat}, r ∈ firsts logs n j ↔ ∃ i k, i < j ∧ k < nAt n i ∧ (logAt logs i)[k]? = some r ∧ r.parts.head? = some (i : Int)
  | 0 => by simp [firsts]
  | j + 1 => by
    rw [firsts, List.mem_append, firsts_mem, List.mem_filter]
    constructor
    · rintro (⟨i, k, h1, h2⟩ | ⟨h1, h2⟩)
      · exact ⟨i, k, by omega, h2⟩
      · obtain ⟨k, hk⟩ := List.mem_iff_getElem?.1 h1
        have hk2 := (List.getElem?_eq_some_iff.1 hk).1
        rw [List.length_take] at hk2
        rw [List.getElem?_take_of_lt (by omega)] at hk
        exact ⟨j, k, by omega, by omega, hk, by simpa using h2⟩
    · rintro ⟨i, k, h1, h2, h3, h4⟩
      by_cases e : i = j
      · subst e
        refine .inr ⟨List.mem_iff_getElem?.2 ⟨k, by rw [List.getElem?_take_of_lt h2]; exact h3⟩, by simpa using h4⟩
      · exact .inl ⟨i, k, by omega, h2, h3, h4⟩
/-- Numbers sorted strictly. -/
theorem sorted_eq : ∀ {a b : List Nat}, a.Pairwise (· < ·) → b.Pairwise (· < ·) → (∀ x, x ∈ a ↔ x ∈ b) → a = b
  | [], [], _, _, _ => rfl
  | [], y :: b, _, _, h => by have := (h y).2 List.mem_cons_self; simp at this
  | x :: a, [], _, _, h => by have := (h x).1 List.mem_cons_self; simp at this
  | x :: a, y :: b, ha, hb, h => by
    obtain ⟨a1, a2⟩ := List.pairwise_cons.1 ha
    obtain ⟨b1, b2⟩ := List.pairwise_cons.1 hb
    have hxy : x = y := by
      rcases List.mem_cons.1 ((h x).1 List.mem_cons_self) with h1 | h1
      · exact h1
      · rcases List.mem_cons.1 ((h y).2 List.mem_cons_self) with h2 | h2
        · exact h2.symm
        · have := b1 x h1; have := a1 y h2; omega
    subst hxy
    rw [sorted_eq a2 b2 fun z => ?_]
    constructor
    · intro hz
      rcases List.mem_cons.1 ((h z).1 (List.mem_cons_of_mem _ hz)) with h1 | h1
      · have := a1 z hz; omega
      · exact h1
    · intro hz
      rcases List.mem_cons.1 ((h z).2 (List.mem_cons_of_mem _ hz)) with h1 | h1
      · have := b1 z hz; omega
      · exact h1

end Ab
end Go.Proofs.YtidoflgcblglbaaDoor

/-
  DERIVED. What is wrong with logs, in plain Lean: with a map of what was met, or by a search in all logs.
  Conditions: none of a program's.
-/
namespace Go.Proofs.YtidoflgcblglbaaDoor
namespace Ab
set_option linter.all false

/-- Partitions of a record: they rise, from 0 up to 63. -/
def PartsOk (l : List Int) : Prop := 1 ≤ l.length ∧ l.length ≤ 64 ∧ (∀ p ∈ l, 0 ≤ p ∧ p < 64) ∧ ∀ (i : Nat) (a b : Int), l[i]? = some a → l[i + 1]? = some b → a < b
theorem parts_lt {l : List Int} (h : ∀ (i : Nat) (a b : Int), l[i]? = some a → l[i + 1]? = some b → a < b) : ∀ {d k : Nat} {a b : Int}, l[k]? = some a → l[k + d + 1]? = some b → a < b
  | 0, k, a, b, h1, h2 => h k a b h1 h2
  | d + 1, k, a, b, h1, h2 => by
    obtain ⟨c, hc⟩ : ∃ c, l[k + d + 1]? = some c := ⟨_, List.getElem?_eq_getElem (by have := (List.getElem?_eq_some_iff.1 h2).1; omega)⟩
    exact Int.lt_trans (parts_lt h h1 hc) (h (k + d + 1) c b hc h2)
theorem PartsOk.nodup {l : List Int} (h : PartsOk l) : l.Nodup := by
  unfold List.Nodup
  rw [List.pairwise_iff_getElem]
  intro i j hi hj hij e
  obtain ⟨d, rfl⟩ : ∃ d, j = i + d + 1 := ⟨j - i - 1, by omega⟩
  have := parts_lt h.2.2.2 (List.getElem?_eq_getElem hi) (List.getElem?_eq_getElem hj)
  omega
/-- All partitions lie below a bound if the last one does. -/
theorem PartsOk.last {l : List Int} (h : PartsOk l) {m : Nat} {x : Int} (hx : l[l.length - 1]? = some x) : x < m ↔ ∀ p ∈ l, 0 ≤ p ∧ p < (m : Int) := by
  constructor
  · intro hm p hp
    refine ⟨(h.2.2.1 p hp).1, ?_⟩
    obtain ⟨k, hk⟩ := List.mem_iff_getElem?.1 hp
    have hk2 := (List.getElem?_eq_some_iff.1 hk).1
    by_cases e : k = l.length - 1
    · subst e; rw [hx] at hk; cases hk; exact hm
    · obtain ⟨d, hd⟩ : ∃ d, l.length - 1 = k + d + 1 := ⟨l.length - 1 - k - 1, by omega⟩
      rw [hd] at hx
      have := parts_lt h.2.2.2 hk hx
      omega
  · intro hp
    exact (hp x (List.mem_of_getElem? hx)).2

/-- What a log's record must keep to, in itself. -/
structure FitAt (logs : Logs) (i : Nat) (l : List Rec) (k : Nat) (r : Rec) : Prop where
  rise : ∀ (j : Nat) (a : Rec), j + 1 = k → l[j]? = some a → a.id < r.id
  own : (i : Int) ∈ r.parts
  last : ∀ p ∈ r.parts, 0 ≤ p ∧ p < (logs.length : Int)
theorem Fits.at {logs : Logs} (h : Fits logs) {i k : Nat} {l : List Rec} {r : Rec} (hl : logs[i]? = some l) (hr : l[k]? = some r) : FitAt logs i l k r :=
  ⟨fun j a e ha => h.rise i l hl j a r ha (by rw [e]; exact hr), h.own i l r hl (List.mem_of_getElem? hr), h.last i l r hl (List.mem_of_getElem? hr)⟩
/-- What lies ahead of a place. -/
def Seen (logs : Logs) (i k : Nat) (r : Rec) : Prop := ∃ (i' k' : Nat) (l : List Rec), logs[i']? = some l ∧ l[k']? = some r ∧ (i' < i ∨ (i' = i ∧ k' < k))
structure Good (logs : Logs) (i k : Nat) : Prop where
  fit : ∀ (i' k' : Nat) (l : List Rec) (r : Rec), logs[i']? = some l → l[k']? = some r → (i' < i ∨ (i' = i ∧ k' < k)) → FitAt logs i' l k' r
  same : ∀ a b, Seen logs i k a → Seen logs i k b → a.id = b.id → sameRec a b
theorem Seen.next {logs : Logs} {i k : Nat} {l : List Rec} {r x : Rec} (hl : logs[i]? = some l) (hr : l[k]? = some r) (h : Seen logs i (k + 1) x) : Seen logs i k x ∨ x = r := by
  obtain ⟨i', k', l', h1, h2, h3⟩ := h
  rcases h3 with h3 | ⟨rfl, h3⟩
  · exact .inl ⟨i', k', l', h1, h2, .inl h3⟩
  · rw [hl] at h1; cases h1
    rcases Nat.lt_or_eq_of_le (Nat.le_of_lt_succ h3) with h4 | h4
    · exact .inl ⟨_, k', _, hl, h2, .inr ⟨rfl, h4⟩⟩
    · subst h4; rw [hr] at h2; cases h2; exact .inr rfl
theorem Seen.widen {logs : Logs} {i k : Nat} {x : Rec} (h : Seen logs i k x) : Seen logs i (k + 1) x := by
  obtain ⟨i', k', l', h1, h2, h3⟩ := h
  exact ⟨i', k', l', h1, h2, h3.imp_right fun h => ⟨h.1, by omega⟩⟩
theorem Seen.here {logs : Logs} {i k : Nat} {l : List Rec} {r : Rec} (hl : logs[i]? = some l) (hr : l[k]? = some r) : Seen logs i (k + 1) r := ⟨i, k, l, hl, hr, .inr ⟨rfl, by omega⟩⟩
theorem seen_row {logs : Logs} {i k : Nat} {l : List Rec} {x : Rec} (hl : logs[i]? = some l) (hk : l.length ≤ k) : Seen logs i k x ↔ Seen logs (i + 1) 0 x := by
  constructor
  · rintro ⟨i', k', l', h1, h2, h3⟩
    exact ⟨i', k', l', h1, h2, .inl (by omega)⟩
  · rintro ⟨i', k', l', h1, h2, h3⟩
    refine ⟨i', k', l', h1, h2, ?_⟩
    by_cases e : i' = i
    · subst e; rw [hl] at h1; cases h1
      have := (List.getElem?_eq_some_iff.1 h2).1
      exact .inr ⟨rfl, by omega⟩
    · exact .inl (by omega)
theorem good_start (logs : Logs) : Good logs 0 0 := ⟨fun i' k' l r _ _ h => by omega, fun a b ⟨i', k', l, _, _, h⟩ => by omega⟩
theorem Good.row {logs : Logs} {i k : Nat} {l : List Rec} (h : Good logs i k) (hl : logs[i]? = some l) (hk : l.length ≤ k) : Good logs (i + 1) 0 := by
  refine ⟨fun i' k' l' r h1 h2 h3 => h.fit i' k' l' r h1 h2 ?_, fun a b ha hb => h.same a b ((seen_row hl hk).2 ha) ((seen_row hl hk).2 hb)⟩
  by_cases e : i' = i
  · subst e; rw [hl] at h1; cases h1
    have := (List.getElem?_eq_some_iff.1 h2).1
    exact .inr ⟨rfl, by omega⟩
  · exact .inl (by omega)
/-- What a map holds of what was met. -/
def MapOk (logs : Logs) (i k : Nat) (M : Nat → Option Rec) : Prop := (∀ id w, M id = some w → Seen logs i k w ∧ w.id = id) ∧ ∀ r, Seen logs i k r → ∃ w, M r.id = some w
theorem map_start (logs : Logs) : MapOk logs 0 0 (fun _ => none) := ⟨fun id w h => by simp at h, fun r ⟨i', k', l, _, _, h⟩ => by omega⟩
theorem MapOk.row {logs : Logs} {i k : Nat} {l : List Rec} {M : Nat → Option Rec} (h : MapOk logs i k M) (hl : logs[i]? = some l) (hk : l.length ≤ k) : MapOk logs (i + 1) 0 M :=
  ⟨fun id w e => ⟨(seen_row hl hk).1 (h.1 id w e).1, (h.1 id w e).2⟩, fun r hr => h.2 r ((seen_row hl hk).2 hr)⟩
theorem Good.step {logs : Logs} {i k : Nat} {l : List Rec} {r : Rec} {M : Nat → Option Rec} (h : Good logs i k) (hM : MapOk logs i k M) (hl : logs[i]? = some l) (hr : l[k]? = some r) (hf : FitAt logs i l k r) (hw : ∀ w, M r.id = some w → sameRec w r) :
    Good logs i (k + 1) ∧ MapOk logs i (k + 1) (fun id => if id = r.id then some r else M id) := by
  have key : ∀ a, Seen logs i k a → a.id = r.id → sameRec a r := fun a ha e => by
    obtain ⟨w, hw1⟩ := hM.2 a ha
    have h1 := hM.1 _ w hw1
    have h2 := h.same w a h1.1 ha h1.2
    exact h2.symm.trans (hw w (by rw [← e]; exact hw1))
  refine ⟨⟨fun i' k' l' x h1 h2 h3 => ?_, fun a b ha hb e => ?_⟩, fun id w e => ?_, fun x hx => ?_⟩
  · by_cases e : i' = i ∧ k' = k
    · obtain ⟨rfl, rfl⟩ := e
      rw [hl] at h1; cases h1
      rw [hr] at h2; cases h2
      exact hf
    · exact h.fit i' k' l' x h1 h2 (h3.imp_right fun h => ⟨h.1, by omega⟩)
  · rcases ha.next hl hr with ha | rfl
    · rcases hb.next hl hr with hb | rfl
      · exact h.same a b ha hb e
      · exact key a ha e
    · rcases hb.next hl hr with hb | rfl
      · exact (key b hb e.symm).symm
      · exact .refl _
  · simp only at e
    split at e
    · rename_i h1; cases e; exact ⟨.here hl hr, h1.symm⟩
    · exact ⟨(hM.1 id w e).1.widen, (hM.1 id w e).2⟩
  · simp only
    split
    · exact ⟨_, rfl⟩
    · rename_i hne
      rcases hx.next hl hr with hx | rfl
      · exact hM.2 x hx
      · exact absurd rfl hne
theorem good_end {logs : Logs} (h : Good logs logs.length 0) : Fits logs := by
  have hs : ∀ (i : Nat) (l : List Rec) (r : Rec), logs[i]? = some l → r ∈ l → Seen logs logs.length 0 r := fun i l r hl hr => by
    obtain ⟨k, hk⟩ := List.mem_iff_getElem?.1 hr
    exact ⟨i, k, l, hl, hk, .inl (List.getElem?_eq_some_iff.1 hl).1⟩
  have hfit : ∀ (i k : Nat) (l : List Rec) (r : Rec), logs[i]? = some l → l[k]? = some r → FitAt logs i l k r := fun i k l r hl hr => h.fit i k l r hl hr (.inl (List.getElem?_eq_some_iff.1 hl).1)
  refine ⟨fun i l hl k a b h1 h2 => (hfit i (k + 1) l b hl h2).rise k a rfl h1, fun i l r hl hr => ?_, fun i l r hl hr => ?_, fun i j l m a b hl hm ha hb e => h.same a b (hs i l a hl ha) (hs j m b hm hb) e⟩
  · obtain ⟨k, hk⟩ := List.mem_iff_getElem?.1 hr
    exact (hfit i k l r hl hk).own
  · obtain ⟨k, hk⟩ := List.mem_iff_getElem?.1 hr
    exact (hfit i k l r hl hk).last
/-- A record met that is another is a fault. -/
theorem not_fits {logs : Logs} {i k : Nat} {l : List Rec} {r w : Rec} {M : Nat → Option Rec} (hM : MapOk logs i k M) (hl : logs[i]? = some l) (hr : l[k]? = some r) (hw : M r.id = some w) (hs : ¬ sameRec w r) : ¬ Fits logs := fun h => by
  obtain ⟨⟨i', k', l', h1, h2, _⟩, h4⟩ := hM.1 _ w hw
  exact hs (h.same i' i l' l w r h1 hl (List.mem_of_getElem? h2) (List.mem_of_getElem? hr) h4)

/-- The reference's look at one record. -/
def FindFit (logs : Logs) (r : Rec) : Prop := ∀ (j : Nat) (l : List Rec) (at_ : Nat) (b : Rec), logs[j]? = some l → findId l r.id = some at_ → l[at_]? = some b → sameRec b r
theorem findId_some {l : List Rec} {id at_ : Nat} (h : findId l id = some at_) : ∃ b, l[at_]? = some b ∧ b.id = id := by
  obtain ⟨h1, h2, _⟩ := List.findIdx?_eq_some_iff_getElem.1 h
  exact ⟨_, List.getElem?_eq_getElem h1, by simpa using h2⟩
theorem findId_of {l : List Rec} {id k : Nat} {b : Rec} (hR : Rising l) (hk : l[k]? = some b) (e : b.id = id) : findId l id = some k := by
  cases hf : findId l id with
  | none =>
    rw [findId, List.findIdx?_eq_none_iff] at hf
    have := hf b (List.mem_of_getElem? hk)
    simp [e] at this
  | some at_ =>
    obtain ⟨c, h1, h2⟩ := findId_some hf
    rw [hR.inj h1 hk (by omega)]
theorem fits_of_find {logs : Logs} (h1 : ∀ (i k : Nat) (l : List Rec) (r : Rec), logs[i]? = some l → l[k]? = some r → FitAt logs i l k r ∧ FindFit logs r) : Fits logs := by
  have hR : ∀ (i : Nat) (l : List Rec), logs[i]? = some l → Rising l := fun i l hl k a b ha hb => (h1 i (k + 1) l b hl hb).1.rise k a rfl ha
  refine ⟨hR, fun i l r hl hr => ?_, fun i l r hl hr => ?_, fun i j l m a b hl hm ha hb e => ?_⟩
  · obtain ⟨k, hk⟩ := List.mem_iff_getElem?.1 hr
    exact (h1 i k l r hl hk).1.own
  · obtain ⟨k, hk⟩ := List.mem_iff_getElem?.1 hr
    exact (h1 i k l r hl hk).1.last
  · obtain ⟨k, hk⟩ := List.mem_iff_getElem?.1 ha
    obtain ⟨k', hk'⟩ := List.mem_iff_getElem?.1 hb
    exact (h1 j k' m b hm hk').2 i l k a hl (findId_of (hR i l hl) hk e) hk
theorem Fits.find {logs : Logs} (h : Fits logs) {i k : Nat} {l : List Rec} {r : Rec} (hl : logs[i]? = some l) (hr : l[k]? = some r) : FindFit logs r := fun j m at_ b hm hf hb => by
  obtain ⟨c, h1, h2⟩ := findId_some hf
  rw [hb] at h1; cases h1
  exact h.same j i m l b r hm hl (List.mem_of_getElem? hb) (List.mem_of_getElem? hr) h2

end Ab
end Go.Proofs.YtidoflgcblglbaaDoor

/-
  DERIVED. Both ways to order logs come to the same, in plain Lean.
  Conditions: none of a program's.
-/
namespace Go.Proofs.YtidoflgcblglbaaDoor
namespace Ab
set_option linter.all false

theorem rising_pair {l : List Rec} (h : Rising l) : (l.map Rec.id).Pairwise (· < ·) := by
  rw [List.pairwise_map, List.pairwise_iff_getElem]
  intro i j hi hj hij
  obtain ⟨d, rfl⟩ : ∃ d, j = i + d + 1 := ⟨j - i - 1, by omega⟩
  exact h.lt (List.getElem?_eq_getElem hi) (List.getElem?_eq_getElem hj)
theorem rising_take {l : List Rec} (h : Rising l) (n : Nat) : Rising (l.take n) := by
  intro k a b h1 h2
  have hk := (List.getElem?_eq_some_iff.1 h2).1
  rw [List.length_take] at hk
  rw [List.getElem?_take_of_lt (by omega)] at h1 h2
  exact h k a b h1 h2
theorem pair_filter {l : List Rec} {p : Rec → Bool} (h : (l.map Rec.id).Pairwise (· < ·)) : ((l.filter p).map Rec.id).Pairwise (· < ·) := by
  rw [List.pairwise_map] at h ⊢
  exact h.filter p
theorem logAt_rise {logs : Logs} (hF : Fits logs) (i : Nat) : Rising (logAt logs i) := by
  unfold logAt
  cases h : logs[i]? with
  | none => intro k a b h1; simp at h1
  | some l => exact hF.rise i l h
theorem firsts_nodup {logs : Logs} (hF : Fits logs) (n : List Nat) : ∀ j, ((firsts logs n j).map Rec.id).Nodup
  | 0 => by simp [firsts]
  | j + 1 => by
    rw [firsts, List.map_append, List.nodup_append]
    refine ⟨firsts_nodup hF n j, (pair_filter (rising_pair (rising_take (logAt_rise hF j) _))).imp fun h => by omega, fun x hx y hy e => ?_⟩
    subst e
    obtain ⟨a, ha, e1⟩ := List.mem_map.1 hx
    obtain ⟨b, hb, e2⟩ := List.mem_map.1 hy
    obtain ⟨i, k, h1, h2, h3, h4⟩ := firsts_mem.1 ha
    rw [List.mem_filter] at hb
    have hb1 := List.mem_of_mem_take hb.1
    obtain ⟨k', hk'⟩ := List.mem_iff_getElem?.1 hb1
    have hs := hF.same i j _ _ a b (logAt_some h3) (logAt_some hk') (List.mem_of_getElem? h3) hb1 (by omega)
    have h5 : b.parts.head? = some (j : Int) := by simpa using hb.2
    rw [← hs.2.2.2.2.1, h4] at h5
    injection h5 with h5
    omega
theorem firsts_all {logs : Logs} (hF : Fits logs) (hP : ∀ (i k : Nat) (r : Rec), (logAt logs i)[k]? = some r → PartsOk r.parts) {n : List Nat} (hn : n.length = logs.length) (hC : ∀ (i k : Nat) (r : Rec), k < nAt n i → (logAt logs i)[k]? = some r → cntR logs n r = true) {r : Rec} (hr : Cnt logs n r) : ∃ x ∈ firsts logs n logs.length, x.id = r.id := by
  obtain ⟨i, k, h1, h2⟩ := hr
  have hp := hP i k r h2
  obtain ⟨p, l, hpl⟩ : ∃ p l, r.parts = p :: l := by
    cases h : r.parts with
    | nil => have := hp.1; rw [h] at this; simp at this
    | cons p l => exact ⟨p, l, rfl⟩
  have hc := hC i k r h1 h2
  unfold cntR at hc
  rw [List.all_eq_true] at hc
  have hpm : p ∈ r.parts := by rw [hpl]; exact List.mem_cons_self
  have hc2 := hc p hpm
  rw [has_take] at hc2
  obtain ⟨k', x, k1, k2, k3⟩ := hc2
  have h0 := (hp.2.2.1 p hpm).1
  have hs := hF.same p.toNat i _ _ x r (logAt_some k2) (logAt_some h2) (List.mem_of_getElem? k2) (List.mem_of_getElem? h2) k3
  refine ⟨x, firsts_mem.2 ⟨p.toNat, k', by have := nAt_lt k1; omega, k1, k2, ?_⟩, k3⟩
  rw [hs.2.2.2.2.1, hpl, List.head?_cons, Int.toNat_of_nonneg h0]
theorem order_same {logs : Logs} (hF : Fits logs) (hP : ∀ (i k : Nat) (r : Rec), (logAt logs i)[k]? = some r → PartsOk r.parts) {n : List Nat} (hn : n.length = logs.length) (hC : ∀ (i k : Nat) (r : Rec), k < nAt n i → (logAt logs i)[k]? = some r → cntR logs n r = true)
    {A B : List Rec} (hA : A.Perm (firsts logs n logs.length)) (hA2 : (A.map Rec.id).Pairwise (· ≤ ·)) (hB : Rising B) (hB1 : ∀ b ∈ B, Cnt logs n b) (hB2 : ∀ r, Cnt logs n r → ∃ b ∈ B, b.id = r.id) :
    A.length = B.length ∧ (A.map Rec.id).Pairwise (· < ·) ∧ ∀ (i : Nat) (a b : Rec), A[i]? = some a → B[i]? = some b → sameRec a b := by
  have hA3 : (A.map Rec.id).Pairwise (· < ·) := by
    have h1 : (A.map Rec.id).Nodup := (hA.map Rec.id).nodup_iff.2 (firsts_nodup hF n _)
    exact (hA2.and h1).imp fun h => by have := h.1; have := h.2; omega
  have hAc : ∀ a ∈ A, Cnt logs n a := fun a ha => by
    obtain ⟨i, k, _, h2, h3, _⟩ := firsts_mem.1 (hA.mem_iff.1 ha)
    exact ⟨i, k, h2, h3⟩
  have hids : A.map Rec.id = B.map Rec.id := by
    refine sorted_eq hA3 (rising_pair hB) fun x => ?_
    constructor
    · intro hx
      obtain ⟨a, ha, rfl⟩ := List.mem_map.1 hx
      obtain ⟨b, hb, e⟩ := hB2 a (hAc a ha)
      exact List.mem_map.2 ⟨b, hb, e⟩
    · intro hx
      obtain ⟨b, hb, rfl⟩ := List.mem_map.1 hx
      obtain ⟨a, ha, e⟩ := firsts_all hF hP hn hC (hB1 b hb)
      exact List.mem_map.2 ⟨a, hA.mem_iff.2 ha, e⟩
  refine ⟨by have := congrArg List.length hids; simpa using this, hA3, fun i a b h1 h2 => ?_⟩
  have hid : a.id = b.id := by
    have := congrArg (fun l => l[i]?) hids
    simp only [List.getElem?_map, h1, h2, Option.map_some] at this
    injection this
  obtain ⟨i1, k1, _, q1⟩ := hAc a (List.mem_of_getElem? h1)
  obtain ⟨i2, k2, _, q2⟩ := hB1 b (List.mem_of_getElem? h2)
  exact hF.same i1 i2 _ _ a b (logAt_some q1) (logAt_some q2) (List.mem_of_getElem? q1) (List.mem_of_getElem? q2) hid

end Ab
end Go.Proofs.YtidoflgcblglbaaDoor

/-
  DERIVED. Rows beside records, put in order together; what counts is the greatest closed part: in plain Lean.
  Conditions: none of a program's.
-/
namespace Go.Proofs.YtidoflgcblglbaaDoor
namespace Ab
set_option linter.all false

theorem sort_pairs {α : Type} {rows : List α} {L : List Rec} {key : α → Nat} (R : α → Rec → Prop) (hl : rows.length = L.length) (hR : ∀ (j : Nat) (c : α) (r : Rec), rows[j]? = some c → L[j]? = some r → R c r) (hk : ∀ c r, R c r → key c = r.id) (hnd : (L.map Rec.id).Nodup) :
    ∃ (rows' : List α) (A : List Rec), rows'.Perm rows ∧ A.Perm L ∧ rows'.length = A.length ∧ (rows'.map key).Pairwise (· < ·) ∧ (A.map Rec.id).Pairwise (· < ·) ∧ ∀ (j : Nat) (c : α) (r : Rec), rows'[j]? = some c → A[j]? = some r → R c r := by
  have hp := List.mergeSort_perm (rows.zip L) (fun a b => decide (a.2.id ≤ b.2.id))
  have tr : ∀ (x y z : α × Rec), decide (x.2.id ≤ y.2.id) = true → decide (y.2.id ≤ z.2.id) = true → decide (x.2.id ≤ z.2.id) = true := fun x y z h1 h2 => by
    simp only [decide_eq_true_eq] at *
    omega
  have to : ∀ (x y : α × Rec), (decide (x.2.id ≤ y.2.id) || decide (y.2.id ≤ x.2.id)) = true := fun x y => by
    simp only [Bool.or_eq_true, decide_eq_true_eq]
    omega
  have h1 := List.pairwise_mergeSort tr to (rows.zip L)
  have hL : (rows.zip L).map Prod.snd = L := List.map_snd_zip (by omega)
  have hrw : (rows.zip L).map Prod.fst = rows := List.map_fst_zip (by omega)
  generalize (rows.zip L).mergeSort (fun a b => decide (a.2.id ≤ b.2.id)) = P at hp h1
  have hmem : ∀ p ∈ P, R p.1 p.2 := fun p hpP => by
    obtain ⟨j, hj⟩ := List.mem_iff_getElem?.1 (hp.mem_iff.1 hpP)
    rw [List.getElem?_zip_eq_some] at hj
    exact hR j _ _ hj.1 hj.2
  have hA : (P.map Prod.snd).Perm L := by have := hp.map Prod.snd; rwa [hL] at this
  have h2 : ((P.map Prod.snd).map Rec.id).Nodup := (hA.map Rec.id).nodup_iff.2 hnd
  have h3 : ((P.map Prod.snd).map Rec.id).Pairwise (· < ·) := by
    rw [List.map_map, List.pairwise_map]
    rw [List.map_map] at h2
    unfold List.Nodup at h2
    rw [List.pairwise_map] at h2
    exact (h1.and h2).imp fun h => by
      have a := h.1
      have b := h.2
      simp only [decide_eq_true_eq, Function.comp_apply] at a b ⊢
      omega
  refine ⟨P.map Prod.fst, P.map Prod.snd, by have := hp.map Prod.fst; rwa [hrw] at this, hA, by simp, ?_, h3, fun j c r hc hr => ?_⟩
  · rw [List.map_map, List.pairwise_map] at h3 ⊢
    refine List.Pairwise.imp_of_mem (fun {a b} ha hb h => ?_) h3
    simp only [Function.comp_apply] at h ⊢
    rw [hk _ _ (hmem a ha), hk _ _ (hmem b hb)]
    exact h
  · rw [List.getElem?_map] at hc hr
    cases hj : P[j]? with
    | none => rw [hj] at hc; cases hc
    | some p =>
      rw [hj] at hc hr
      cases hc; cases hr
      exact hmem p (List.mem_of_getElem? hj)

/- What counts is the greatest closed part. -/
def ClosedL (logs : Logs) (m : List Nat) : Prop := ∀ (i k : Nat) (r : Rec), k < nAt m i → (logAt logs i)[k]? = some r → cntR logs m r = true
theorem cntR_mono {logs : Logs} {m n : List Nat} (h : ∀ p, nAt m p ≤ nAt n p) {r : Rec} (hr : cntR logs m r = true) : cntR logs n r = true := by
  unfold cntR at hr ⊢
  rw [List.all_eq_true] at hr ⊢
  intro p hp
  have h1 := hr p hp
  rw [has_take] at h1 ⊢
  obtain ⟨k, x, h2, h3, h4⟩ := h1
  exact ⟨k, x, Nat.lt_of_lt_of_le h2 (h _), h3, h4⟩
theorem closed_cutI {logs : Logs} {m n : List Nat} (hc : ClosedL logs m) (h : ∀ p, nAt m p ≤ nAt n p) (i p : Nat) : nAt m p ≤ nAt (cutI logs n i) p := by
  unfold cutI
  split
  · rename_i k hk
    obtain ⟨h1, r, h2, h3⟩ := failI_lt hk
    rw [nAt_set]
    split
    · rename_i e
      rw [e.1]
      rcases Nat.lt_or_ge k (nAt m i) with h4 | h4
      · rw [cntR_mono h (hc i k r h4 h2)] at h3; cases h3
      · exact h4
    · exact h p
  · exact h p
theorem closed_all {logs : Logs} {m : List Nat} (hc : ClosedL logs m) (h : ∀ p, nAt m p ≤ (logAt logs p).length) (p : Nat) : nAt m p ≤ nAt (cutAll logs) p := by
  refine cutF_ind (C := fun n => ∀ p, nAt m p ≤ nAt n p) (fun n i hn => closed_cutI hc hn i) (fun q => ?_) p
  have : nAt (logs.map List.length) q = (logAt logs q).length := by
    unfold nAt logAt
    rw [List.getElem?_map]
    cases logs[q]? <;> rfl
  rw [this]
  exact h q

end Ab
end Go.Proofs.YtidoflgcblglbaaDoor
