/-
  DERIVED. What the walks lean on: a call at a depth, numbers that fit, lengths, cuts.
  Conditions: none of a program's.
-/
import Derived.Test.YtidoflgcblglbaaDoorCg
import Derived.Test.YtidoflgcblglbaaDoorFacts
import Derived.Test.YtidoflgcblglbaaDoorAbG
set_option linter.all false
set_option maxHeartbeats 4000000
namespace Go.Proofs.YtidoflgcblglbaaDoor
namespace Ab
set_option maxRecDepth 100000
set_option maxHeartbeats 4000000
set_option linter.all false

/-- A call at a depth, and what it answers. -/
def Sp (K n : Nat) (g : FuncId) (args : List AV) (hp : Hp) (nx : Nat) (Q : AV → Hp → Nat → Prop) : Prop := ∃ r hp' nx', callA cfg K n g args hp nx = some (r, hp', nx') ∧ Q r hp' nx'
theorem sp_of {K n : Nat} {g : FuncId} {args : List AV} {hp : Hp} {nx : Nat} {Q : AV → Hp → Nat → Prop} (h : cfg.hint g = none) (he : Ends cfg (callA cfg K n) K g args hp nx Q) : Sp K (n + 1) g args hp nx Q := by
  obtain ⟨r, hp', nx', h1, h2⟩ := he
  exact ⟨r, hp', nx', by rw [callA_at h]; exact h1, h2⟩
theorem sp_hint {K n : Nat} {g : FuncId} {args : List AV} {hp : Hp} {nx : Nat} {Q : AV → Hp → Nat → Prop} {h : List AV → Hp → Nat → Option (AV × Hp × Nat)} {r : AV} {hp' : Hp} {nx' : Nat} (he : cfg.hint g = some h) (hr : h args hp nx = some (r, hp', nx')) (hq : Q r hp' nx') : Sp K (n + 1) g args hp nx Q :=
  ⟨r, hp', nx', by rw [callA_hint he]; exact hr, hq⟩
theorem Sp.mono {K n : Nat} {g : FuncId} {args : List AV} {hp : Hp} {nx : Nat} {Q Q' : AV → Hp → Nat → Prop} (h : Sp K n g args hp nx Q) (hq : ∀ r hp' nx', Q r hp' nx' → Q' r hp' nx') : Sp K n g args hp nx Q' := by
  obtain ⟨r, hp', nx', h1, h2⟩ := h
  exact ⟨r, hp', nx', h1, hq _ _ _ h2⟩
theorem pr_of {K n : Nat} {f : FuncId} {args : List AV} {r : AV} (hh : cfg.hint f = none) (h : Ends cfg (callA cfg K n) K f args [] 0 fun r' _ _ => r' = r) (hr : fl r = true) : pR (callA cfg K (n + 1)) f args = some r := by
  rw [pR_at hh]
  exact pR_of h hr
theorem wrap_i64 {x : Int} (h1 : -9223372036854775808 ≤ x) (h2 : x ≤ 9223372036854775807) : IntKind.i64.wrap x = x := by
  unfold IntKind.wrap
  have hb : IntKind.i64.bits = 64 := rfl
  rw [hb]
  by_cases hx : 0 ≤ x
  · have hm : x % 2 ^ 64 = x := Int.emod_eq_of_lt hx (by omega)
    rw [hm, if_neg]
    simp only [Bool.and_eq_true, decide_eq_true_eq, not_and]
    intro _
    omega
  · have hm : x % 2 ^ 64 = x + 2 ^ 64 := by
      rw [← Int.add_emod_right]
      exact Int.emod_eq_of_lt (by omega) (by omega)
    rw [hm, if_pos]
    · omega
    · simp only [Bool.and_eq_true, decide_eq_true_eq]
      exact ⟨rfl, by omega⟩
theorem mostB : mostBytes = 68719476736 := by decide
theorem wrap1 : IntKind.i64.wrap 1 = 1 := wrap_i64 (by omega) (by omega)
/-- Enough rounds. -/
abbrev big (K : Nat) : Prop := 2 ^ 26 ≤ K
theorem shown_all {rows : List (List AV)} {n : Nat} (h : n = rows.length) : shown rows 0 n = rows := by
  subst h
  simp [shown]
theorem sp_cps {K n : Nat} {g : FuncId} {args : List AV} {hp : Hp} {nx : Nat} {P : AV → Hp → Nat → Prop} (h : ∀ Q : AV → Hp → Nat → Prop, (∀ r hp' nx', P r hp' nx' → Q r hp' nx') → Sp K n g args hp nx Q) : Sp K n g args hp nx P := h P fun _ _ _ h => h
theorem Sp.cW {K n : Nat} {g : FuncId} {args : List AV} {hp : Hp} {nx : Nat} {Q' Q : AV → Hp → Nat → Prop} (h : Sp K n g args hp nx Q') (hq : ∀ r h' n', Q' r h' n' → Q r h' n') : Ab.cW (callA cfg K n g args hp nx) Q := by
  obtain ⟨r, h', n', h1, h2⟩ := h
  exact ⟨r, h', n', h1, hq _ _ _ h2⟩
theorem Sp.beside {K n : Nat} {g : FuncId} {args : List AV} {nx : Nat} {Q' : AV → Hp → Nat → Prop} {dst : Option Nat} {Q : Eff → Nat → Prop} (h : Sp K n g args [] nx Q') (hq : ∀ r h' n', Q' r h' n' → besideE dst Q r h' n') : Ab.cW (callA cfg K n g args [] nx) (besideE dst Q) := h.cW hq
def strT (P : Program) (t : TypeId) : Bool := match P.underlying t with
  | some .string => true
  | _ => false
def sliceT (P : Program) (t : TypeId) : Bool := match P.underlying t with
  | some (.slice _) => true
  | _ => false
theorem lenA_str {P : Program} {get : Ref → Option AO} {t : TypeId} {x : ByteArray} (h : strT P t = true) : lenA P get t (.s x) = some (.i .i64 (x.size : Nat)) := by
  unfold strT at h
  unfold lenA
  cases hu : P.underlying t with
  | none => rw [hu] at h; cases h
  | some d =>
    rw [hu] at h
    cases d <;> first | (cases h; done) | rfl
theorem lenA_sl {P : Program} {get : Ref → Option AO} {t : TypeId} {x : AV} (h : sliceT P t = true) : lenA P get t x = (slLen x).map fun n => .i .i64 (n : Nat) := by
  unfold sliceT at h
  unfold lenA
  cases hu : P.underlying t with
  | none => rw [hu] at h; cases h
  | some d =>
    rw [hu] at h
    cases d <;> first | (cases h; done) | (cases x <;> rfl)
theorem bits_u64 : IntKind.u64.bits = 64 := rfl
theorem wrap_u64 (m : Nat) : IntKind.u64.wrap (m : Int) = ((m % 18446744073709551616 : Nat) : Int) := by
  unfold IntKind.wrap
  have hs : IntKind.u64.signed = false := rfl
  rw [bits_u64, hs]
  simp only [Bool.false_and, Bool.false_eq_true, if_false]
  omega
theorem wrap_u64' {m : Nat} (h : m < 18446744073709551616) : IntKind.u64.wrap (m : Int) = (m : Int) := by rw [wrap_u64, Nat.mod_eq_of_lt h]
theorem wrap_u64i {x : Int} (h1 : 0 ≤ x) (h2 : x < 18446744073709551616) : IntKind.u64.wrap x = x := by
  obtain ⟨m, rfl⟩ := Int.eq_ofNat_of_zero_le h1
  exact wrap_u64' (by omega)
theorem f_use {call : CallT} {st : St} {nx nx' : Nat} {dst : Option Nat} {g : FuncId} {args args' : List AV} {r : AV} {hp : Hp} {Q : Eff → Nat → Prop} (hf : mapO (frz st.get frzDepth) args = some args') (hc : call g args' [] nx = some (r, hp, nx'))
    (hn : (nov r && hp.all fun x => novO x.2.2) = true) (hq : Q ⟨dst, r, hp.reverse.map (fun x => (.h x.1 x.2.1, some x.2.2)), none, none⟩ nx') : oW (fCall call st nx dst g args) Q := by
  unfold fCall
  simp only [hf, hc, hn, if_true]
  rw [oW_some]
  exact hq
/-- What a region comes to, its continuation held back. -/
theorem oW_cut {r : Option (Eff × Nat)} {C : Cfg} {call : CallT} {f : FuncId} {ops : Array Oper} {base i id : Nat} {l : List Oper} {st : St} {acc : List Eff} {draw : Bool} {Q' : Ex × St → Prop} (P : Ex × St → Prop)
    (h1 : ∀ Q2 : Ex × St → Prop, (∀ x, P x → Q2 x) → oW r (opsK C call f ops base l i st acc (regK C f id ops draw Q2))) (h2 : ∀ x, P x → Q' x) : oW r (opsK C call f ops base l i st acc (regK C f id ops draw Q')) := h1 Q' h2
/-- A statement and what comes behind it. -/
theorem seq_cut {C : Cfg} {call : CallT} {k : Nat} {f : FuncId} {a b : Code} {st : St} {Q : Ex × St → Prop} (P : Ex × St → Prop) (h1 : wp (codeA C call k f a st) P) (h2 : ∀ x, P x → seqQ C call k f b Q x) : wp (codeA C call k f (.seq a b) st) Q := by
  rw [wp_seq]
  exact wp_mono h1 h2
theorem frz_rows {get : Ref → Option AO} {m k g i0 len sz : Nat} {all rows rows' : List (List AV)} (h1 : get (.h k g) = some (.arr sz all)) (h2 : (all.drop i0).take len = rows) (h3 : i0 + len ≤ all.length) (h4 : mapO (mapO (frz get m)) rows = some rows') : frz get (m + 1) (.rs k g i0 len sz) = some (.vs false sz rows') := by
  simp only [frz, rowsOf, h1]
  simp [h3, h2, h4]
attribute [simp] sliceT strT lenA_str
theorem two {A B X G : Prop} (h : A ∨ B) (h1 : A → X → G) (h2 : B → X → G) (x : X) : G := h.elim (fun a => h1 a x) fun b => h2 b x

end Ab
end Go.Proofs.YtidoflgcblglbaaDoor
