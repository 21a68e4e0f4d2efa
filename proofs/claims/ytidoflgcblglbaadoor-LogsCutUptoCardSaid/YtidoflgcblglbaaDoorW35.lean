/-
  DERIVED. locksteplaw26.Logs: logs copied.
  Conditions: enough rounds, enough depth; bounded lengths.
-/
import Derived.Test.YtidoflgcblglbaaDoorW30
import Derived.Test.YtidoflgcblglbaaDoorW32
import Derived.Test.YtidoflgcblglbaaDoorW28
set_option linter.all false
set_option maxHeartbeats 4000000
namespace Go.Proofs.YtidoflgcblglbaaDoor
namespace Ab
open Go.Lib
set_option maxRecDepth 100000
set_option maxHeartbeats 4000000
set_option linter.all false
attribute [local simp] wp_regW opsW_nil opsW_cons opsK_eq regK_no regK_draw oW_n oW_h oW_r oW_pn convA appendA appRow newsA rowsSz rowsOf isIntD makeSliceA elemOf rowsBuilt eqA eq1 lenA

theorem recs_inR {H : Hp} {nx N kn g : Nat} {out : List (List AV)} {l : List Rec} (h1 : lk H kn = some (g, .arr 6 out)) (h2 : out.length = l.length) (h0 : nx ≤ kn) (h3 : kn < N) (h4 : ∀ (j : Nat) (c : List AV) (r : Rec), out[j]? = some c → l[j]? = some r → ∃ a ga b gb, c = recHeap a ga b gb r ∧ RowG false H nx N c r) : InR H nx N (.rs kn g 0 l.length 6) l := by
  refine ⟨kn, g, out, rfl, h1, h2, h0, h3, fun j c r hc hr => ?_⟩
  obtain ⟨a, ga, b, gb, rfl, p, q, e, hp, hq⟩ := h4 j c r hc hr
  simp only [recHeap, List.cons.injEq, and_true, true_and] at e
  obtain ⟨rfl, rfl⟩ := e
  obtain ⟨a', ga', e1, e2, e0, e3⟩ := hp.resolve_right fun h => by cases h.1
  obtain ⟨b', gb', f1, f2, f0, f3⟩ := hq.resolve_right fun h => by cases h.1
  cases e1; cases f1
  exact ⟨a, ga, b, gb, rfl, e2, f2, e0, e3, f0, f3⟩
/-- What Logs answers. -/
def LogsG (logs : Logs) (nx : Nat) (v : AV) (H : Hp) (N : Nat) : Prop := nx ≤ N ∧ NovH H ∧ nov v = true ∧ v.mv = true ∧ (∀ j x, lk H j = some x → nx ≤ j ∧ j < N) ∧ InL H N v logs
theorem c_Logs {K n nx : Nat} (hK : big K) (hn : 4 ≤ n) {v : AV} {logs : Logs} (hv : LogsV v logs) (hB : LogsB logs) : Sp K n 7 [v] [] nx (LogsG logs nx) := by
  refine sp_cps fun Q hQ => ?_
  obtain ⟨n, rfl⟩ : ∃ m, n = m + 1 := ⟨n - 1, by omega⟩
  have hv0 := hv
  obtain ⟨z, rows, rfl, hrl, _, _⟩ := hv0
  have hll := hB.len
  have w1 : IntKind.i64.wrap ((logs.length : Int) + 1) = (logs.length : Int) + 1 := wrap_i64 (by omega) (by omega)
  have w2 : (0 : Int) ≤ (logs.length : Int) + 1 := by omega
  have d2 : (logs.length + 1) * 25 ≤ 68719476736 := by omega
  refine sp_of rfl (run_wp Tryd.func7 rfl (by simp [Tryd.f7]) ?_)
  simp [-fCall, hrl, mostB, w1, w2, d2]
  generalize hkn : nx + 1 + 3 = kn
  refine loop_wp (ι := Nat × List (List AV) × Nat × Hp × Nat) (fun i => { env := [(0, .vs z 1 rows), (3, .rs kn i.2.2.1 0 i.1 1), (4, .i .i64 (i.1 : Nat))], loc := [], hp := i.2.2.2.1, nx := i.2.2.2.2 }) (fun i => logs.length - i.1)
    (fun i => i.1 ≤ logs.length ∧ NovH i.2.2.2.1 ∧ nx ≤ i.2.2.2.2 ∧ kn < i.2.2.2.2 ∧ (∀ j x, lk i.2.2.2.1 j = some x → nx ≤ j ∧ j < i.2.2.2.2) ∧ lk i.2.2.2.1 kn = some (i.2.2.1, .arr 1 i.2.1) ∧ i.2.1.length = i.1 ∧ (∀ (j : Nat) (c : List AV) (l : List Rec), i.2.1[j]? = some c → logs[j]? = some l → ∃ w, c = [w] ∧ InR i.2.2.2.1 (kn + 1) i.2.2.2.2 w l)) (0, [], 0, [(kn, (0, .arr 1 []))], _) rfl ⟨Nat.zero_le _, fun e he => (by simp at he; rw [he]; rfl), by simp only; omega, by simp only; omega, fun j x h => ?_, by simp [lk], rfl, fun j c r h => (by simp at h)⟩ (by simp; unfold big at hK; omega) ?_
  · simp only [lk] at h
    split at h
    · simp only; omega
    · cases h
  rintro Next ⟨i, out, g, H, N⟩ ⟨hi, hNov, hN, hkN, hkeys, hlk, hol, hrecs⟩ hnext
  simp only at hi hNov hN hkN hkeys hlk hol hrecs hnext
  by_cases hlt : i < logs.length
  · obtain ⟨zw, wrows, hcr, hw, hlq, hwl, hwz⟩ := log_at hv hlt
    have hlb := hB.log _ (List.mem_of_getElem? hlq)
    have c1 : (i : Int) < logs.length := by omega
    have c3 : IntKind.i64.wrap ((i : Int) + 1) = ((i + 1 : Nat) : Int) := by rw [wrap_i64 (by omega) (by omega)]; omega
    have hsh : shown out 0 i = out := shown_all (by omega)
    have hb : (i + 1) * 25 ≤ 68719476736 := by omega
    simp [-fCall, hrl, c1, hcr, get_of hcr, hlt]
    refine f_sp (args' := [.vs zw 6 wrows]) (by simp) (c_RecordsG (K := K) (n := n) hK (by omega) hw hlb) ?_
    rintro _ H4 N4 ⟨hN4, hNov4, hk4, kr, gr, rr, rfl, hlr, hrr, hkr1, hkr2, hapr, hrows⟩
    refine ⟨rfl, hNov4, ?_⟩
    have hin := recs_inR hlr hrr hkr1 hkr2 hrows
    have e0 := lay_keys hkeys (fun j x h => (by have := hk4 j x h; exact ⟨by omega, this.2⟩) : ∀ j x, lk H4 j = some x → N ≤ j ∧ j < N4) (by omega) (by omega)
    have e1 : lk (layH H H4) kn = some (g, .arr 1 out) := by rw [lay_low hk4 (by omega)]; exact hlk
    have hne : ∀ c, ¬ kn = N + c := fun c => by omega
    simp [-fCall, foldl_layW, lk_set, e1, hol, hsh, hb, mostB, c3, hne, Nat.add_assoc]
    have hnk : ∀ j, kn + 1 ≤ j → j ≠ N + 10 → lk (up (up (layH H H4) (N + 10) (0, AO.arr 1 [[AV.rs kr gr 0 (logAt logs i).length 6]])) kn (g + 1, AO.arr 1 (out ++ [[AV.rs kr gr 0 (logAt logs i).length 6]]))) j = lk (layH H H4) j := fun j h1 h2 => by
      rw [lk_set, if_neg (by omega), lk_set, if_neg h2]
    have hno1 : ∀ z : List (List AV), novO (.arr 1 z) = true → novO (.arr 1 (z ++ [[AV.rs kr gr 0 (logAt logs i).length 6]])) = true := fun z hz => nov_app hz rfl
    refine hnext (i + 1, out ++ [[AV.rs kr gr 0 (logAt logs i).length 6]], g + 1, _, _) (by simp only; omega) ⟨by simp only; omega, nov_up (hno1 _ (nov_lk hNov hlk)) (nov_up (hno1 [] rfl) (nov_lay hNov hNov4)), by simp only; omega, by simp only; omega, fun j x h => ?_, by simp only [lk_set, if_true], by simp [hol], fun j c l h1 h2 => ?_⟩
    · simp only [lk_set] at h
      split at h
      · simp only; omega
      · split at h
        · simp only; omega
        · have := e0 j x h; simp only; omega
    · simp only at h1 h2 ⊢
      by_cases e : j < i
      · rw [List.getElem?_append_left (by omega)] at h1
        obtain ⟨w, q1, q2⟩ := hrecs j c l h1 h2
        refine ⟨w, q1, q2.keep (fun j' w1 w2 => ?_) (by omega)⟩
        rw [hnk j' w1 (by omega), lay_low hk4 (by omega)]
      · have hj := (List.getElem?_eq_some_iff.1 h1).1
        rw [List.length_append, List.length_singleton] at hj
        have hji : j = i := by omega
        subst hji
        rw [List.getElem?_append_right (by omega), hol, Nat.sub_self] at h1
        cases h1
        rw [hlq] at h2
        cases h2
        refine ⟨_, rfl, (InR.keep (H := H4) hin (fun j' w1 w2 => ?_) (by omega)).low (by omega)⟩
        rw [hnk j' (by omega) (by omega), lk_layH]
        cases h9 : lk H4 j' with
        | some y => rfl
        | none =>
          simp only
          cases h8 : lk H j' with
          | none => rfl
          | some y => have := hkeys j' y h8; omega
  · have hil : i = logs.length := by omega
    subst hil
    simp [-fCall, hrl]
    exact hQ _ _ _ ⟨by omega, hNov, rfl, rfl, fun j x h => by have := hkeys j x h; omega, kn, g, out, rfl, hlk, hol, by omega, fun j c l h1 h2 => by
      obtain ⟨w, q1, q2⟩ := hrecs j c l h1 h2
      exact ⟨w, q1, q2.keep (fun _ _ _ => rfl) (by omega)⟩⟩

end Ab
end Go.Proofs.YtidoflgcblglbaaDoor
