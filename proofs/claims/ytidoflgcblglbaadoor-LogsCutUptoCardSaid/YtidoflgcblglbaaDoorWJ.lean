/-
  DERIVED. locksteplaw26.Records: records copied.
  Conditions: enough rounds, enough depth; bounded lengths.
-/
import Derived.Test.YtidoflgcblglbaaDoorWG
import Derived.Test.YtidoflgcblglbaaDoorWF
set_option linter.all false
set_option maxHeartbeats 4000000
namespace Go.Proofs.YtidoflgcblglbaaDoor
namespace Ab
open Go.Lib
set_option maxRecDepth 100000
set_option maxHeartbeats 4000000
set_option linter.all false
attribute [local simp] wp_region regionA opsA nCall rCall goCallR pCall pnCall lenA appendA appRow newsA rowsSz rowsOf isIntD makeSliceA elemOf rowsBuilt eqA eq1

/-- A record's row whose lists lie on the heap, apart from an object. -/
def RecH (H : Hp) (N k : Nat) (c : List AV) (r : Rec) : Prop := ∃ a ga b gb, c = recHeap a ga b gb r ∧ lk H a = some (ga, .arr 1 (ints r.parts)) ∧ lk H b = some (gb, .arr 3 (valRows r.args)) ∧ a < N ∧ b < N ∧ a ≠ k ∧ b ≠ k
/-- All that is laid is of one's own. -/
def NovH (H : Hp) : Prop := ∀ e ∈ H, novO e.2.2 = true
theorem nov_up {o : AO} (ho : novO o = true) : ∀ {H : Hp} {k g : Nat}, NovH H → NovH (up H k (g, o))
  | [], k, g, _ => fun e he => by simp [up] at he; rw [he]; exact ho
  | (j, y) :: H, k, g, h => fun e he => by
    unfold up at he
    split at he
    · rcases List.mem_cons.1 he with rfl | he
      · exact ho
      · exact h e (List.mem_cons_of_mem _ he)
    · rcases List.mem_cons.1 he with rfl | he
      · exact h _ List.mem_cons_self
      · exact nov_up ho (H := H) (fun e he => h e (List.mem_cons_of_mem _ he)) e he
theorem nov_lk {o : AO} {g : Nat} : ∀ {H : Hp} {k : Nat}, NovH H → lk H k = some (g, o) → novO o = true
  | [], k, _, h => by cases h
  | (j, y) :: H, k, h, hl => by
    unfold lk at hl
    split at hl
    · cases hl; exact h _ List.mem_cons_self
    · exact nov_lk (fun e he => h e (List.mem_cons_of_mem _ he)) hl
theorem nov_ints (l : List Int) : novO (.arr 1 (ints l)) = true := by simp [novO, ints, nov1]
theorem nov_vals (l : List Val) : novO (.arr 3 (valRows l)) = true := by simp [novO, valRows, Val.row, nov1]
theorem nov_rec (a ga b gb : Nat) (r : Rec) : novO (.arr 6 [recHeap a ga b gb r]) = true := by simp [novO, recHeap, nov1]
theorem nov_snoc {out : List (List AV)} (h : novO (.arr 6 out) = true) (a ga b gb : Nat) (r : Rec) : novO (.arr 6 (out ++ [recHeap a ga b gb r])) = true := by
  simp only [novO, List.all_append, Bool.and_eq_true] at h ⊢
  exact ⟨h, by simp [recHeap, nov1]⟩
theorem c_Records {K n nx : Nat} (hK : big K) (hn : 3 ≤ n) {z : Bool} {rows : List (List AV)} {l : List Rec} (hv : RecsV (.vs z 6 rows) l) (hB : LogB l) :
    Sp K n 17 [.vs z 6 rows] [] nx fun v hp' nx' => nx ≤ nx' ∧ NovH hp' ∧ (∀ j x, lk hp' j = some x → nx ≤ j ∧ j < nx') ∧ ∃ kn g out, v = .rs kn g 0 l.length 6 ∧ lk hp' kn = some (g, .arr 6 out) ∧ out.length = l.length ∧ nx ≤ kn ∧ kn < nx' ∧ ∀ (j : Nat) (c : List AV) (r : Rec), out[j]? = some c → l[j]? = some r → RecH hp' nx' kn c r := by
  refine sp_cps fun Q hQ => ?_
  obtain ⟨n, rfl⟩ : ∃ m, n = m + 1 := ⟨n - 1, by omega⟩
  have hv0 := hv
  obtain ⟨z', rows', e, hrl, _, hrow⟩ := hv0
  cases e
  have hl := hB.len
  have w1 : IntKind.i64.wrap ((l.length : Int) + 1) = (l.length : Int) + 1 := wrap_i64 (by omega) (by omega)
  have w2 : (0 : Int) ≤ (l.length : Int) + 1 := by omega
  have d2 : (l.length + 1) * 89 ≤ 68719476736 := by omega
  refine sp_of rfl (run_wp Tryd.func17 rfl (by simp [Tryd.f17]) ?_)
  simp [hrl, mostB, w1, w2, d2]
  generalize hkn : nx + 1 + 3 = kn
  refine loop_wp (ι := Nat × List (List AV) × Nat × Hp × Nat) (fun i => { env := [(0, .vs z 6 rows), (3, .rs kn i.2.2.1 0 i.1 6), (4, .i .i64 (i.1 : Nat))], loc := [], hp := i.2.2.2.1, nx := i.2.2.2.2 }) (fun i => l.length - i.1)
    (fun i => i.1 ≤ l.length ∧ NovH i.2.2.2.1 ∧ nx ≤ i.2.2.2.2 ∧ kn < i.2.2.2.2 ∧ (∀ j x, lk i.2.2.2.1 j = some x → nx ≤ j ∧ j < i.2.2.2.2) ∧ lk i.2.2.2.1 kn = some (i.2.2.1, .arr 6 i.2.1) ∧ i.2.1.length = i.1 ∧ ∀ (j : Nat) (c : List AV) (r : Rec), i.2.1[j]? = some c → l[j]? = some r → RecH i.2.2.2.1 i.2.2.2.2 kn c r) (0, [], 0, [(kn, (0, .arr 6 []))], _) rfl ⟨Nat.zero_le _, fun e he => (by simp at he; rw [he]; rfl), by simp only; omega, by simp only; omega, fun j x h => ?_, by simp [lk], rfl, fun j c r h => by simp at h⟩ (by simp; unfold big at hK; omega) ?_
  · simp only [lk] at h
    split at h
    · simp only; omega
    · cases h
  rintro Next ⟨i, out, g, H, N⟩ ⟨hi, hNov, hN, hkN, hkeys, hlk, hol, hrecs⟩ hnext
  simp only at hi hNov hN hkN hkeys hlk hol hrecs hnext
  by_cases hlt : i < l.length
  · obtain ⟨r, hr⟩ : ∃ r, l[i]? = some r := ⟨_, List.getElem?_eq_getElem hlt⟩
    obtain ⟨zp, za, hrc, hzp, hza⟩ := recs_at hv hr
    have hrb := hB.each r (List.mem_of_getElem? hr)
    have hrecd := fun N => c_Record (K := K) (n := n) (nx := N) (by omega) zp za r hzp hza hrb
    have hre : ∀ N, recHeap (N + 6) (if r.parts = [] then 0 else 1) (N + 21) (if r.args = [] then 0 else 1) r = [.i .u64 (r.id : Nat), .i .u64 (r.client : Nat), .i .u64 (r.seq : Nat), .rs (N + 6) (if r.parts = [] then 0 else 1) 0 r.parts.length 1, .s r.proc, .rs (N + 21) (if r.args = [] then 0 else 1) 0 r.args.length 3] := fun N => rfl
    simp only [hre] at hrecd
    unfold recCells at hrecd
    have c1 : (i : Int) < l.length := by omega
    have c3 : IntKind.i64.wrap ((i : Int) + 1) = ((i + 1 : Nat) : Int) := by rw [wrap_i64 (by omega) (by omega)]; omega
    have hsh : shown out 0 i = out := shown_all (by omega)
    have hb : (i + 1) * 89 ≤ 68719476736 := by omega
    have hne : ∀ c, ¬ kn = N + c := fun c => by omega
    have hni : (ints r.parts).all (fun r => r.all nov1) = true := by simp [ints, nov1]
    have hnv : (valRows r.args).all (fun r => r.all nov1) = true := by simp [valRows, Val.row, nov1]
    simp [hrl, c1, hrc, recCells, hrecd, c3, mostB, lk_set, hlk, hne, hol, hsh, hb, hni, hnv, novO, nov, nov1, Nat.add_assoc]
    refine hnext (i + 1, out ++ [recHeap (N + 19) (if r.parts = [] then 0 else 1) (N + 34) (if r.args = [] then 0 else 1) r], g + 1, up (up (up (up H (N + 34) (if r.args = [] then 0 else 1, AO.arr 3 (valRows r.args))) (N + 19) (if r.parts = [] then 0 else 1, AO.arr 1 (ints r.parts))) (N + 10) (0, AO.arr 6 [recHeap (N + 19) (if r.parts = [] then 0 else 1) (N + 34) (if r.args = [] then 0 else 1) r])) kn (g + 1, AO.arr 6 (out ++ [recHeap (N + 19) (if r.parts = [] then 0 else 1) (N + 34) (if r.args = [] then 0 else 1) r])), N + 43) (by simp only; omega) ⟨by simp only; omega, nov_up (nov_snoc (nov_lk hNov hlk) _ _ _ _ _) (nov_up (nov_rec _ _ _ _ _) (nov_up (nov_ints _) (nov_up (nov_vals _) hNov))), by simp only; omega, by simp only; omega, fun j x h => ?_, by simp only [lk_set, if_true], by simp [hol], fun j c x h1 h2 => ?_⟩
    · simp only [lk_set] at h
      split at h
      · simp only; omega
      · split at h
        · simp only; omega
        · split at h
          · simp only; omega
          · split at h
            · simp only; omega
            · have := hkeys j x h; simp only; omega
    · simp only at h1 h2 ⊢
      have hlo : out.length = i := hol
      by_cases e : j < i
      · rw [List.getElem?_append_left (by omega)] at h1
        obtain ⟨a, ga, b, gb, q1, q2, q3, q4, q5, q6, q7⟩ := hrecs j c x h1 h2
        refine ⟨a, ga, b, gb, q1, ?_, ?_, by omega, by omega, q6, q7⟩
        · rw [lk_set, if_neg q6, lk_set, if_neg (by omega), lk_set, if_neg (by omega), lk_set, if_neg (by omega)]; exact q2
        · rw [lk_set, if_neg q7, lk_set, if_neg (by omega), lk_set, if_neg (by omega), lk_set, if_neg (by omega)]; exact q3
      · have hj := (List.getElem?_eq_some_iff.1 h1).1
        rw [List.length_append, List.length_singleton] at hj
        have hji : j = i := by omega
        subst hji
        rw [List.getElem?_append_right (by omega), hlo, Nat.sub_self] at h1
        cases h1
        rw [hr] at h2
        cases h2
        refine ⟨N + 19, _, N + 34, _, rfl, ?_, ?_, by omega, by omega, by omega, by omega⟩
        · rw [lk_set, if_neg (by omega), lk_set, if_neg (by omega), lk_set, if_pos rfl]
        · rw [lk_set, if_neg (by omega), lk_set, if_neg (by omega), lk_set, if_neg (by omega), lk_set, if_pos rfl]
  · have hil : i = l.length := by omega
    subst hil
    simp [hrl]
    exact hQ _ _ _ ⟨by omega, hNov, fun j x h => by have := hkeys j x h; omega, kn, g, out, rfl, hlk, hol, by omega, by omega, fun j c r h1 h2 => by
      obtain ⟨a, ga, b, gb, q1, q2, q3, q4, q5, q6, q7⟩ := hrecs j c r h1 h2
      exact ⟨a, ga, b, gb, q1, q2, q3, by omega, by omega, q6, q7⟩⟩

end Ab
end Go.Proofs.YtidoflgcblglbaaDoor

/-
  DERIVED. lockstepref26.Behind and firsts: what rows come to as records.
  Conditions: none of a program's.
-/
namespace Go.Proofs.YtidoflgcblglbaaDoor
namespace Ab
open Go.Lib
set_option maxRecDepth 100000
set_option maxHeartbeats 4000000
set_option linter.all false
attribute [local simp] wp_region regionA opsA nCall rCall goCallR pCall pnCall lenA appendA appRow newsA rowsSz rowsOf isIntD makeSliceA elemOf rowsBuilt eqA eq1

/-- What rows of Behind hold. -/
theorem out_recs {z : Bool} {rows : List (List AV)} {l : List Rec} (hv : RecsV (.vs z 6 rows) l) (id : Nat) : ∀ i, i ≤ l.length → (outR rows id i).length = ((l.take i).filter fun r => decide (id < r.id)).length ∧ ∀ (j : Nat) (c : List AV) (r : Rec), (outR rows id i)[j]? = some c → ((l.take i).filter fun r => decide (id < r.id))[j]? = some r → RecC c r
  | 0, _ => by simp [outR]
  | i + 1, hi => by
    obtain ⟨h1, h2⟩ := out_recs hv id i (by omega)
    obtain ⟨r, hr⟩ : ∃ r, l[i]? = some r := ⟨_, List.getElem?_eq_getElem (by omega)⟩
    obtain ⟨zp, za, hrc, q1, q2⟩ := recs_at hv hr
    have e1 : outR rows id (i + 1) = outR rows id i ++ if id < r.id then [recCells zp za r] else [] := by
      unfold outR
      rw [List.take_add_one, hrc, List.filter_append]
      congr 1
      by_cases g : id < r.id
      · simp [key_rec, g]
      · simp [key_rec, g]
    have e2 : ((l.take (i + 1)).filter fun r => decide (id < r.id)) = ((l.take i).filter fun r => decide (id < r.id)) ++ if id < r.id then [r] else [] := by
      rw [List.take_add_one, hr, List.filter_append]
      congr 1
      by_cases g : id < r.id
      · simp [g]
      · simp [g]
    rw [e1, e2]
    by_cases g : id < r.id
    · rw [if_pos g, if_pos g]
      refine ⟨by simp [h1], fun j c x hc hx => ?_⟩
      have hj := (List.getElem?_eq_some_iff.1 hc).1
      rw [List.length_append, List.length_singleton] at hj
      by_cases e : j < (outR rows id i).length
      · rw [List.getElem?_append_left e] at hc
        rw [List.getElem?_append_left (by omega)] at hx
        exact h2 j c x hc hx
      · rw [List.getElem?_append_right (by omega)] at hc
        rw [List.getElem?_append_right (by omega)] at hx
        have h0 : j - (outR rows id i).length = 0 := by omega
        rw [h0] at hc
        rw [show j - ((l.take i).filter fun r => decide (id < r.id)).length = 0 by omega] at hx
        cases hc; cases hx
        exact ⟨zp, za, rfl, q1, q2⟩
    · rw [if_neg g, if_neg g, List.append_nil, List.append_nil]
      exact ⟨h1, h2⟩

end Ab
end Go.Proofs.YtidoflgcblglbaaDoor
