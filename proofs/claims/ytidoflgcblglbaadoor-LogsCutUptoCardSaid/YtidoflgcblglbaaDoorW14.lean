/-
  DERIVED. lockstepref26.Check: what is wrong with logs.
  Conditions: enough rounds, enough depth; bounded lengths.
-/
import Derived.Test.YtidoflgcblglbaaDoorW13
set_option linter.all false
set_option maxHeartbeats 4000000
namespace Go.Proofs.YtidoflgcblglbaaDoor
namespace Ab
open Go.Lib
set_option maxRecDepth 100000
set_option maxHeartbeats 4000000
set_option linter.all false
attribute [local simp] wp_region regionA opsA nCall rCall goCallR pCall pnCall lenA appendA appRow newsA rowsSz rowsOf isIntD makeSliceA elemOf rowsBuilt eqA eq1

open Classical in
/-- What is wrong with logs. -/
noncomputable def chk (logs : Logs) : Int := if logs.length < 1 ∨ 64 < logs.length then 1 else if ∃ l ∈ logs, ∃ r ∈ l, ¬ CanR r then 260 else if Fits logs then 0 else 261
theorem p_rCheck {K m : Nat} (hK : big K) (hm : 5 ≤ m) {v : AV} {logs : Logs} (hv : LogsV v logs) (hB : LogsB logs) : pR (callA cfg K m) 9 [v] = some (.i .i64 (chk logs)) := by
  obtain ⟨m, rfl⟩ : ∃ k, m = k + 1 := ⟨m - 1, by omega⟩
  have hv0 := hv
  obtain ⟨z, rows, rfl, hrl, _, _⟩ := hv0
  refine pr_of rfl ?_ rfl
  refine run_wp Tryd.func9 rfl (by simp [Tryd.f9]) ?_
  by_cases h1 : (logs.length : Int) < 1
  · have : chk logs = 1 := by unfold chk; rw [if_pos (.inl (by omega))]
    simp [hrl, h1, this]
  by_cases h2 : (64 : Int) < logs.length
  · have : chk logs = 1 := by unfold chk; rw [if_pos (.inr (by omega))]
    simp [hrl, h1, h2, this]
  have hc0 : chk logs = (by classical exact if ∃ l ∈ logs, ∃ r ∈ l, ¬ CanR r then 260 else if Fits logs then 0 else 261) := by unfold chk; rw [if_neg (by omega)]
  simp [hrl, h1, h2]
  refine loop_wp (ι := Nat × Nat) (fun i => { env := [(0, .vs z 1 rows), (3, .i .i64 (i.1 : Nat))], loc := [], hp := [], nx := i.2 }) (fun i => logs.length - i.1)
    (fun i => i.1 ≤ logs.length ∧ ∀ l ∈ logs.take i.1, ∀ r ∈ l, CanR r) (0, _) rfl ⟨Nat.zero_le _, by simp⟩ (by simp; unfold big at hK; omega) ?_
  rintro Next ⟨i, nx⟩ ⟨hi, he⟩ hnext
  simp only at hi he hnext
  by_cases hlt : i < logs.length
  · obtain ⟨zw, wrows, hc, hw, hlq, hwl, hwz⟩ := log_at hv hlt
    have hlb := hB.log _ (List.mem_of_getElem? hlq)
    have hll := hlb.len
    have c1 : (i : Int) < logs.length := by omega
    have c3 : IntKind.i64.wrap ((i : Int) + 1) = ((i + 1 : Nat) : Int) := by rw [wrap_i64 (by omega) (by omega)]; omega
    simp [hrl, c1]
    refine loop_wp (ι := Nat × Nat) (fun k => { env := [(0, .vs z 1 rows), (3, .i .i64 (i : Nat)), (4, .i .i64 (k.1 : Nat))], loc := [], hp := [], nx := k.2 }) (fun k => (logAt logs i).length - k.1)
      (fun k => k.1 ≤ (logAt logs i).length ∧ ∀ r ∈ (logAt logs i).take k.1, CanR r) (0, _) rfl ⟨Nat.zero_le _, by simp⟩ (by simp; unfold big at hK; omega) ?_
    rintro Next2 ⟨k, nx2⟩ ⟨hk, hk2⟩ hnext2
    simp only at hk hk2 hnext2
    by_cases hkl : k < (logAt logs i).length
    · obtain ⟨r, hr⟩ : ∃ r, (logAt logs i)[k]? = some r := ⟨_, List.getElem?_eq_getElem hkl⟩
      have hrm := List.mem_of_getElem? hr
      obtain ⟨zp, za, hrc, _, _⟩ := recs_at hw hr
      have hcan := p_rCan (K := K) (n := m) hK (by omega) zp za r (hlb.each r hrm)
      unfold recCells at hcan
      have k1 : (k : Int) < (logAt logs i).length := by omega
      have k3 : IntKind.i64.wrap ((k : Int) + 1) = ((k + 1 : Nat) : Int) := by rw [wrap_i64 (by omega) (by omega)]; omega
      by_cases g : CanR r
      · rw [canB_yes g] at hcan
        simp [hc, hwl, k1, hrc, recCells, hcan, k3]
        exact hnext2 (k + 1, _) (by simp only; omega) ⟨by simp only; omega, fun x hx => by
          simp only at hx
          rw [List.take_add_one, hr] at hx
          rcases List.mem_append.1 hx with hx | hx
          · exact hk2 x hx
          · simp at hx; rw [hx]; exact g⟩
      · rw [canB_no g] at hcan
        have : chk logs = 260 := by rw [hc0, if_pos ⟨_, List.mem_of_getElem? hlq, r, hrm, g⟩]
        simp [hc, hwl, k1, hrc, recCells, hcan, this]
    · have hkl2 : k = (logAt logs i).length := by omega
      subst hkl2
      rw [List.take_length] at hk2
      simp [hc, hwl, c3]
      exact hnext (i + 1, _) (by simp only; omega) ⟨by simp only; omega, fun l hl r hr => by
        simp only at hl
        rw [List.take_add_one, hlq] at hl
        rcases List.mem_append.1 hl with hl | hl
        · exact he l hl r hr
        · simp at hl; rw [hl] at hr; exact hk2 r hr⟩
  · have hil : i = logs.length := by omega
    subst hil
    rw [List.take_length] at he
    clear hnext
    have hc1 : chk logs = (by classical exact if Fits logs then 0 else 261) := by
      rw [hc0, if_neg]
      rintro ⟨l, hl, r, hr, h⟩
      exact h (he l hl r hr)
    have hno : ¬ Fits logs → chk logs = 261 := fun h => by rw [hc1, if_neg h]
    simp [hrl]
    refine loop_wp (ι := Nat × Nat) (fun i => { env := [(0, .vs z 1 rows), (5, .i .i64 (i.1 : Nat))], loc := [], hp := [], nx := i.2 }) (fun i => logs.length - i.1)
      (fun i => i.1 ≤ logs.length ∧ ∀ (q k : Nat) (l : List Rec) (r : Rec), q < i.1 → logs[q]? = some l → l[k]? = some r → FitAt logs q l k r ∧ FindFit logs r) (0, _) rfl ⟨Nat.zero_le _, fun q k l r h => by simp at h⟩ (by simp; unfold big at hK; omega) ?_
    rintro Next ⟨i, nx⟩ ⟨hi, hg⟩ hnext
    simp only at hi hg hnext
    by_cases hlt : i < logs.length
    · obtain ⟨zw, wrows, hc, hw, hlq, hwl, hwz⟩ := log_at hv hlt
      have hlb := hB.log _ (List.mem_of_getElem? hlq)
      have hll := hlb.len
      have c1 : (i : Int) < logs.length := by omega
      have c3 : IntKind.i64.wrap ((i : Int) + 1) = ((i + 1 : Nat) : Int) := by rw [wrap_i64 (by omega) (by omega)]; omega
      simp [hrl, c1]
      refine loop_wp (ι := Nat × Nat) (fun k => { env := [(0, .vs z 1 rows), (5, .i .i64 (i : Nat)), (6, .i .i64 (k.1 : Nat))], loc := [], hp := [], nx := k.2 }) (fun k => (logAt logs i).length - k.1)
        (fun k => k.1 ≤ (logAt logs i).length ∧ ∀ (q : Nat) (r : Rec), q < k.1 → (logAt logs i)[q]? = some r → FitAt logs i (logAt logs i) q r ∧ FindFit logs r) (0, _) rfl ⟨Nat.zero_le _, fun q r h => by simp at h⟩ (by simp; unfold big at hK; omega) ?_
      rintro Next2 ⟨k, nx2⟩ ⟨hk, hk2⟩ hnext2
      simp only at hk hk2 hnext2
      by_cases hkl : k < (logAt logs i).length
      · obtain ⟨r, hr⟩ : ∃ r, (logAt logs i)[k]? = some r := ⟨_, List.getElem?_eq_getElem hkl⟩
        have hrm := List.mem_of_getElem? hr
        have hfit := p_fits (K := K) (m := m) hK (by omega) hv hB hlq hr (he _ (List.mem_of_getElem? hlq) r hrm)
        have k1 : (k : Int) < (logAt logs i).length := by omega
        have k3 : IntKind.i64.wrap ((k : Int) + 1) = ((k + 1 : Nat) : Int) := by rw [wrap_i64 (by omega) (by omega)]; omega
        by_cases g : FitAt logs i (logAt logs i) k r ∧ FindFit logs r
        · have hb : fitB logs i (logAt logs i) k r = true := by simp only [fitB, g, decide_true, and_self]
          rw [hb] at hfit
          simp [hc, hwl, k1, hfit, k3]
          exact hnext2 (k + 1, _) (by simp only; omega) ⟨by simp only; omega, fun q x hq hx => by
            simp only at hq
            by_cases e : q = k
            · subst e; rw [hr] at hx; cases hx; exact g
            · exact hk2 q x (by omega) hx⟩
        · have hb : fitB logs i (logAt logs i) k r = false := by simp only [fitB, g, decide_false]
          rw [hb] at hfit
          have := hno fun h => g ⟨h.at hlq hr, h.find hlq hr⟩
          simp [hc, hwl, k1, hfit, this]
      · have hkl2 : k = (logAt logs i).length := by omega
        subst hkl2
        simp [hc, hwl, c3]
        exact hnext (i + 1, _) (by simp only; omega) ⟨by simp only; omega, fun q k l r hq h1 h2 => by
          simp only at hq
          by_cases e : q = i
          · subst e
            rw [hlq] at h1; cases h1
            exact hk2 k r (List.getElem?_eq_some_iff.1 h2).1 h2
          · exact hg q k l r (by omega) h1 h2⟩
    · have hil2 : i = logs.length := by omega
      subst hil2
      have hF := fits_of_find fun q k l r h1 h2 => hg q k l r (List.getElem?_eq_some_iff.1 h1).1 h1 h2
      have : chk logs = 0 := by rw [hc1, if_pos hF]
      simp [hrl, this]

end Ab
end Go.Proofs.YtidoflgcblglbaaDoor
