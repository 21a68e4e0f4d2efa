/-
  DERIVED. What the program's disk does, function by function: can, changes, find, renames.
  Conditions: enough rounds, enough depth.
-/
import Derived.Test.YtmbbnoipoifhhaaGreatDoorDA
import Derived.Test.YtmbbnoipoifhhaaGreatDoorCg
import Derived.Test.YtmbbnoipoifhhaaGreatDoorFacts
set_option linter.all false
set_option maxHeartbeats 4000000
namespace Go.Proofs.YtmbbnoipoifhhaaGreatDoor
namespace Ab
set_option maxRecDepth 100000
set_option maxHeartbeats 4000000
set_option linter.all false
attribute [local simp] wp_region regionA opsA nCall rCall goCallR pCall pnCall lenA appendA appRow newsA rowsSz rowsOf isIntD makeSliceA elemOf rowsBuilt eqA eq1

/-- A call at a depth, and what it answers. -/
def Sp (K n : Nat) (g : FuncId) (args : List AV) (hp : Hp) (nx : Nat) (Q : AV → Hp → Nat → Prop) : Prop := ∃ r hp' nx', callA cfg K n g args hp nx = some (r, hp', nx') ∧ Q r hp' nx'
theorem sp_of {K n : Nat} {g : FuncId} {args : List AV} {hp : Hp} {nx : Nat} {Q : AV → Hp → Nat → Prop} (h : cfg.hint g = none) (he : Ends cfg (callA cfg K n) K g args hp nx Q) : Sp K (n + 1) g args hp nx Q := by
  obtain ⟨r, hp', nx', h1, h2⟩ := he
  exact ⟨r, hp', nx', by rw [callA_at h]; exact h1, h2⟩
theorem Sp.mono {K n : Nat} {g : FuncId} {args : List AV} {hp : Hp} {nx : Nat} {Q Q' : AV → Hp → Nat → Prop} (h : Sp K n g args hp nx Q) (hq : ∀ r hp' nx', Q r hp' nx' → Q' r hp' nx') : Sp K n g args hp nx Q' := by
  obtain ⟨r, hp', nx', h1, h2⟩ := h
  exact ⟨r, hp', nx', h1, hq _ _ _ h2⟩
theorem pr_of {K n : Nat} {f : FuncId} {args : List AV} {r : AV} (hh : cfg.hint f = none) (h : Ends cfg (callA cfg K n) K f args [] 0 fun r' _ _ => r' = r) (hr : fl r = true) : pR (callA cfg K (n + 1)) f args = some r := by
  rw [pR_at hh]
  exact pR_of h hr
theorem wrap_i64 {x : Int} (h1 : -9223372036854775808 ≤ x) (h2 : x ≤ 9223372036854775807) : IntKind.i64.wrap x = x := by
  unfold IntKind.wrap
  have hb : IntKind.i64.bits = 64 := rfl
  rw [hb]
  by_cases hx : 0 ≤ x
  · have hm : x % 2 ^ 64 = x := Int.emod_eq_of_lt hx (by omega)
    rw [hm, if_neg]
    simp only [Bool.and_eq_true, decide_eq_true_eq, not_and]
    intro _
    omega
  · have hm : x % 2 ^ 64 = x + 2 ^ 64 := by
      rw [← Int.add_emod_right]
      exact Int.emod_eq_of_lt (by omega) (by omega)
    rw [hm, if_pos]
    · omega
    · simp only [Bool.and_eq_true, decide_eq_true_eq]
      exact ⟨rfl, by omega⟩
theorem mostB : mostBytes = 68719476736 := by decide
theorem wrap1 : IntKind.i64.wrap 1 = 1 := wrap_i64 (by omega) (by omega)

/-- Enough rounds. -/
abbrev big (K : Nat) : Prop := 2 ^ 26 ≤ K

theorem nameOk_all (s : Bs) (h1 : 1 ≤ s.length) (h2 : s.length ≤ 64) : nameOk s = s.all fun c => decide (33 ≤ c.toNat) && decide (c.toNat ≤ 126) := by
  simp [nameOk, h1, h2]

theorem c_can {K n : Nat} (hK : big K) (hn : 1 ≤ n) (s : Bs) : pR (callA cfg K n) 44 [.s (ba s)] = some (.b (nameOk s)) := by
  obtain ⟨n, rfl⟩ : ∃ m, n = m + 1 := ⟨n - 1, by omega⟩
  refine pr_of rfl ?_ rfl
  refine run_wp Tryz.func44 rfl (by simp [Tryz.f44]) ?_
  by_cases h1 : (s.length : Int) < 1
  · have : nameOk s = false := by simp [nameOk]; omega
    simp [h1, this]
  by_cases h2 : (64 : Int) < s.length
  · have : nameOk s = false := by simp [nameOk]; omega
    simp [h1, h2, this]
  simp [h1, h2]
  rw [nameOk_all s (by omega) (by omega)]
  refine loop_wp (ι := Nat × Nat) (fun i => { env := [(0, .s (ba s)), (13, .i .i64 (s.length : Nat)), (14, .i .i64 (i.1 : Nat))], loc := [], hp := [], nx := i.2 }) (fun i => s.length - i.1)
    (fun i => i.1 ≤ s.length ∧ (s.all fun c => decide (33 ≤ c.toNat) && decide (c.toNat ≤ 126)) = ((s.drop i.1).all fun c => decide (33 ≤ c.toNat) && decide (c.toNat ≤ 126))) (0, _) rfl ⟨Nat.zero_le _, by simp⟩ (by simp; unfold big at hK; omega) ?_
  rintro Next ⟨i, nx⟩ ⟨hi, he⟩ hnext
  simp only at hi he hnext ⊢
  by_cases hlt : i < s.length
  · have c1 : (i : Int) < s.length := by omega
    have hx : s[i]? = some s[i] := List.getElem?_eq_getElem hlt
    have hd : s.drop i = s[i] :: s.drop (i + 1) := List.drop_eq_getElem_cons hlt
    have c3 : IntKind.i64.wrap ((i : Int) + 1) = ((i + 1 : Nat) : Int) := by rw [wrap_i64 (by omega) (by omega)]; omega
    rw [hd, List.all_cons] at he
    by_cases hb : (s[i].toNat : Int) < 33
    · have : (decide (33 ≤ s[i].toNat) && decide (s[i].toNat ≤ 126)) = false := by simp; omega
      rw [this] at he
      simp [c1, hx, hb, he]
    by_cases hb2 : (126 : Int) < s[i].toNat
    · have : (decide (33 ≤ s[i].toNat) && decide (s[i].toNat ≤ 126)) = false := by simp; omega
      rw [this] at he
      simp [c1, hx, hb, hb2, he]
    have : (decide (33 ≤ s[i].toNat) && decide (s[i].toNat ≤ 126)) = true := by simp; omega
    rw [this, Bool.true_and] at he
    simp [c1, hx, hb, hb2, c3]
    exact hnext (i + 1, _) (by simp only; omega) ⟨hlt, he⟩
  · obtain rfl : i = s.length := by omega
    simp only [List.drop_length, List.all_nil] at he
    simp [he]

/-- A disk's object alone turns. -/
def Only (k : Nat) (o : AO) (hp hp' : Hp) : Prop := ∀ j, lk hp' j = if j = k then some (0, o) else lk hp j

theorem c_changes {K n : Nat} (hn : 1 ≤ n) (d : Dk) (k : Nat) (q m w : AV) (hp : Hp) (nx : Nat) (hl : d.left ≤ 9223372036854775807) (hg : lk hp k = some (0, .cells [q, m, w, .i .i64 d.stopC])) :
    Sp K n 45 [.ptr k 0 0] hp nx fun r hp' nx' => r = .tup [.b (!d.dead && d.left == 1), .b d.stops] ∧ nx ≤ nx' ∧ Only k (.cells [q, m, w, .i .i64 d.stop1.stopC]) hp hp' := by
  obtain ⟨n, rfl⟩ : ∃ m, n = m + 1 := ⟨n - 1, by omega⟩
  refine sp_of rfl (run_wp Tryz.func45 rfl (by simp [Tryz.f45]) ?_)
  by_cases hd : d.dead = true
  · have h1 : d.stopC = -1 := by simp [Dk.stopC, hd]
    have h2 : d.stop1 = d := by simp [Dk.stop1, hd]
    rw [h1] at hg
    simp [hg, hd, h1, h2, Dk.stops]
    exact ⟨by omega, fun j => by by_cases hj : j = k <;> simp [hj, hg]⟩
  have hd' : d.dead = false := by simpa using hd
  by_cases h1 : d.left = 1
  · have e1 : d.stopC = 1 := by simp [Dk.stopC, hd', h1]; rfl
    have e2 : d.stop1.stopC = -1 := by simp [Dk.stop1, hd', h1, Dk.stopC]
    rw [e1] at hg
    simp [hg, hd', e1, e2, Dk.stops, h1]
    exact ⟨by omega, fun j => by rw [lk_set]⟩
  by_cases h2 : 1 < d.left
  · have e1 : d.stopC = d.left := by simp [Dk.stopC, hd']; omega
    have e2 : d.stop1.stopC = d.left - 1 := by simp [Dk.stop1, hd', h1, h2, Dk.stopC]; omega
    have e3 : IntKind.i64.wrap (d.left - 1) = d.left - 1 := wrap_i64 (by omega) (by omega)
    have b1 : (d.left == -1) = false := by simp; omega
    have b2 : (d.left == 1) = false := by simp; omega
    rw [e1] at hg
    simp [hg, hd', e1, e2, e3, Dk.stops, h1, h2, b1, b2]
    exact ⟨by omega, fun j => by rw [lk_set]⟩
  · have e1 : d.stopC = 0 := by simp [Dk.stopC, hd']; omega
    have e2 : d.stop1 = d := by simp [Dk.stop1, hd', h1, h2]
    rw [e1] at hg
    have b2 : (d.left == 1) = false := by simp; omega
    simp [hg, hd', e1, e2, Dk.stops, h1, h2, b2]
    exact ⟨by omega, fun j => by by_cases hj : j = k <;> simp [hj, hg]⟩

/-- A file's object, or what is wrong. -/
def findR (d : Dk) (φ : Nat → Nat) (s : Bs) : AV := if !nameOk s then .tup [.np, .i .i64 6] else match findW d.now s with
  | none => .tup [.np, .i .i64 40]
  | some i => .tup [.ptr (φ i) 0 0, .i .i64 0]

theorem lookup_enc (s : Bs) (es : List (Bs × Nat)) : findA .string (.s (ba s)) (encM es) 0 = some ((fI es s 0).map fun x => (x.1, .ptr x.2 0 0)) := findA_enc s es 0

theorem c_find {K n : Nat} (hK : big K) (hn : 2 ≤ n) (d : Dk) (k m : Nat) (q w st : AV) (es : List (Bs × Nat)) (φ : Nat → Nat) (hp : Hp) (nx : Nat) (hg : lk hp k = some (0, .cells [q, .mp (some m), w, st]))
    (hm : lk hp m = some (0, .mp (encM es))) (hp' : es.Perm (d.now.map fun e => (e.1, φ e.2))) (hw : Rising d.now) (s : Bs) :
    Sp K n 42 [.ptr k 0 0, .s (ba s)] hp nx fun r hp' nx' => r = findR d φ s ∧ nx ≤ nx' ∧ hp' = hp := by
  obtain ⟨n, rfl⟩ : ∃ m, n = m + 1 := ⟨n - 1, by omega⟩
  have hc := c_can (n := n) hK (by omega) s
  refine sp_of rfl (run_wp Tryz.func42 rfl (by simp [Tryz.f42]) ?_)
  have hf := perm_find s hp' hw
  cases hs : nameOk s with
  | false => simp [hc, hs, findR]; omega
  | true =>
    cases hi : fI es s 0 with
    | none =>
      rw [hi] at hf
      have : findW d.now s = none := by simpa using hf.symm
      simp [hc, hs, hg, hm, lookup_enc, hi, findR, this, keyD]; omega
    | some x =>
      obtain ⟨i, n0⟩ := x
      rw [hi] at hf
      simp only [Option.map_some] at hf
      cases hw2 : findW d.now s with
      | none => rw [hw2] at hf; cases hf
      | some j =>
        rw [hw2] at hf
        simp only [Option.map_some, Option.some.injEq] at hf
        subst hf
        simp [hc, hs, hg, hm, lookup_enc, hi, findR, hw2, keyD]; omega

end Ab
end Go.Proofs.YtmbbnoipoifhhaaGreatDoor
