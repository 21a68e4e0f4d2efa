/-
  DERIVED. recovery.check: what is wrong with logs.
  Conditions: enough rounds, enough depth; bounded lengths.
-/
import Derived.Test.YtidoflgcblglbaaDoorW14
set_option linter.all false
set_option maxHeartbeats 4000000
namespace Go.Proofs.YtidoflgcblglbaaDoor
namespace Ab
open Go.Lib
set_option maxRecDepth 100000
set_option maxHeartbeats 4000000
set_option linter.all false
attribute [local simp] wp_region regionA opsA nCall rCall goCallR pCall pnCall lenA appendA appRow newsA rowsSz rowsOf isIntD makeSliceA elemOf rowsBuilt eqA eq1

/-- The map's entries: numbers to records. -/
def MapV (es : List (AV × AV)) (M : Nat → Option Rec) : Prop := ∃ ps : List (Nat × (Bool × Bool × Rec)), es = ps.map (fun e => (AV.i .u64 (e.1 : Nat), AV.agg (recCells e.2.1 e.2.2.1 e.2.2.2))) ∧ ∀ id, M id = (ps.find? (fun e => e.1 == id)).map fun e => e.2.2.2
theorem find_none {id : Nat} : ∀ (ps : List (Nat × (Bool × Bool × Rec))) (j : Nat), (ps.find? fun e => e.1 == id) = none → findA (.int .u64) (.i .u64 (id : Nat)) (ps.map fun e => (AV.i .u64 (e.1 : Nat), AV.agg (recCells e.2.1 e.2.2.1 e.2.2.2))) j = some none
  | [], j, _ => rfl
  | e :: ps, j, h => by
    by_cases g : e.1 = id
    · rw [List.find?_cons, g] at h; simp at h
    · have g1 : ((id : Int) == (e.1 : Int)) = false := by simp; omega
      have g2 : (e.1 == id) = false := by simp [g]
      rw [List.find?_cons, g2] at h
      simp only [List.map_cons, findA, sameA, if_true, g1]
      exact find_none ps (j + 1) h
theorem find_some {id : Nat} {x : Bool × Bool × Rec} : ∀ (ps : List (Nat × (Bool × Bool × Rec))) (j : Nat) {k : Nat}, (ps.find? fun e => e.1 == id) = some (k, x) → ∃ i, findA (.int .u64) (.i .u64 (id : Nat)) (ps.map fun e => (AV.i .u64 (e.1 : Nat), AV.agg (recCells e.2.1 e.2.2.1 e.2.2.2))) j = some (some (i + j, AV.agg (recCells x.1 x.2.1 x.2.2))) ∧ ps[i]? = some (id, x) ∧ ∀ y id', ((ps.set i (id, y)).find? fun e => e.1 == id') = if id' = id then some (id, y) else ps.find? fun e => e.1 == id'
  | [], j, k, h => by simp at h
  | e :: ps, j, k, h => by
    by_cases g : e.1 = id
    · have g1 : ((id : Int) == (e.1 : Int)) = true := by simp [g]
      have g2 : (e.1 == id) = true := by simp [g]
      rw [List.find?_cons, g2] at h
      cases h
      refine ⟨0, ?_, by simp [← g], fun y id' => ?_⟩
      · simp only [List.map_cons, findA, sameA, if_true, g1, Nat.zero_add]
      · simp only [List.set_cons_zero, List.find?_cons]
        by_cases q : id' = id
        · subst q; simp
        · have q1 : (id == id') = false := by simp; omega
          have q2 : (k == id') = false := by
            simp only at g
            rw [g]; exact q1
          simp [q, q1, q2]
    · have g1 : ((id : Int) == (e.1 : Int)) = false := by simp; omega
      have g2 : (e.1 == id) = false := by simp [g]
      rw [List.find?_cons, g2] at h
      obtain ⟨i, h1, h2, h3⟩ := find_some ps (j + 1) h
      refine ⟨i + 1, ?_, by simpa using h2, fun y id' => ?_⟩
      · simp only [List.map_cons, findA, sameA, if_true, g1]
        rw [h1]
        congr 3
        omega
      · simp only [List.set_cons_succ, List.find?_cons, h3]
        by_cases q : id' = id
        · subst q; simp [g2]
        · simp [q]
theorem p_check {K m : Nat} (hK : big K) (hm : 9 ≤ m) {v : AV} {logs : Logs} (hv : LogsV v logs) (hB : LogsB logs) : pR (callA cfg K m) 31 [v] = some (.i .i64 (chk logs)) := by
  obtain ⟨m, rfl⟩ : ∃ k, m = k + 1 := ⟨m - 1, by omega⟩
  have hv0 := hv
  obtain ⟨z, rows, rfl, hrl, _, _⟩ := hv0
  refine pr_of rfl ?_ rfl
  refine run_wp Tryd.func31 rfl (by simp [Tryd.f31]) ?_
  by_cases h1 : (logs.length : Int) < 1
  · have : chk logs = 1 := by unfold chk; rw [if_pos (.inl (by omega))]
    simp [hrl, h1, this]
  by_cases h2 : (64 : Int) < logs.length
  · have : chk logs = 1 := by unfold chk; rw [if_pos (.inr (by omega))]
    simp [hrl, h1, h2, this]
  have hc0 : chk logs = (by classical exact if ∃ l ∈ logs, ∃ r ∈ l, ¬ CanR r then 260 else if Fits logs then 0 else 261) := by unfold chk; rw [if_neg (by omega)]
  simp [hrl, h1, h2]
  refine loop_wp (ι := Nat × Nat) (fun i => { env := [(0, .vs z 1 rows), (20, .vs z 1 rows), (21, .i .i64 (logs.length : Nat)), (22, .i .i64 (i.1 : Nat))], loc := [], hp := [], nx := i.2 }) (fun i => logs.length - i.1)
    (fun i => i.1 ≤ logs.length ∧ ∀ l ∈ logs.take i.1, ∀ r ∈ l, CanR r) (0, _) rfl ⟨Nat.zero_le _, by simp⟩ (by simp; unfold big at hK; omega) ?_
  rintro Next ⟨i, nx⟩ ⟨hi, he⟩ hnext
  simp only at hi he hnext
  by_cases hlt : i < logs.length
  · obtain ⟨zw, wrows, hc, hw, hlq, hwl, hwz⟩ := log_at hv hlt
    have hlb := hB.log _ (List.mem_of_getElem? hlq)
    have hcf := p_cfR (K := K) (n := m) hK (by omega) hw hlb
    have c1 : (i : Int) < logs.length := by omega
    have c3 : IntKind.i64.wrap ((i : Int) + 1) = ((i + 1 : Nat) : Int) := by rw [wrap_i64 (by omega) (by omega)]; omega
    by_cases g : ∃ r ∈ logAt logs i, ¬ CanR r
    · have hcf' : pR (callA cfg K m) 53 [.vs zw 6 wrows, .fn 54 []] = some (.b true) := by rw [hcf]; simp only [g, decide_true]
      have : chk logs = 260 := by rw [hc0, if_pos ⟨_, List.mem_of_getElem? hlq, g⟩]
      simp [c1, hc, hcf', this]
    · have hcf' : pR (callA cfg K m) 53 [.vs zw 6 wrows, .fn 54 []] = some (.b false) := by rw [hcf]; simp only [g, decide_false]
      simp [c1, hc, hcf', c3]
      exact hnext (i + 1, _) (by simp only; omega) ⟨by simp only; omega, fun l hl r hr => by
        simp only at hl
        rw [List.take_add_one, hlq] at hl
        rcases List.mem_append.1 hl with hl | hl
        · exact he l hl r hr
        · simp at hl; rw [hl] at hr; exact Classical.not_not.1 fun e => g ⟨r, hr, e⟩⟩
  · have hil : i = logs.length := by omega
    subst hil
    rw [List.take_length] at he
    clear hnext
    have hc1 : chk logs = (by classical exact if Fits logs then 0 else 261) := by
      rw [hc0, if_neg]
      rintro ⟨l, hl, r, hr, h⟩
      exact h (he l hl r hr)
    simp [hrl]
    refine loop_wp (ι := Nat × List (AV × AV) × Nat × Nat) (fun i => { env := [(0, .vs z 1 rows), (5, .mp (some i.2.2.2)), (30, .vs z 1 rows), (31, .i .i64 (logs.length : Nat)), (32, .i .i64 (i.1 : Nat))], loc := [], hp := [(i.2.2.2, (0, .mp i.2.1))], nx := i.2.2.1 }) (fun i => logs.length - i.1)
      (fun i => i.1 ≤ logs.length ∧ i.2.2.2 < i.2.2.1 ∧ Good logs i.1 0 ∧ ∃ M, MapOk logs i.1 0 M ∧ MapV i.2.1 M) (0, [], _, _) rfl ⟨Nat.zero_le _, by simp only; omega, good_start logs, _, map_start logs, [], rfl, fun id => rfl⟩ (by simp; unfold big at hK; omega) ?_
    rintro Next ⟨i, es, nx, mp⟩ ⟨hi, hmp, hG, M, hM, hMV⟩ hnext
    simp only at hi hmp hG hM hMV hnext
    by_cases hlt : i < logs.length
    · obtain ⟨zw, wrows, hc, hw, hlq, hwl, hwz⟩ := log_at hv hlt
      have hlb := hB.log _ (List.mem_of_getElem? hlq)
      have c1 : (i : Int) < logs.length := by omega
      have hll := hlb.len
      have hno : ¬ Fits logs → chk logs = 261 := fun h => by rw [hc1, if_neg h]
      simp [c1, hc, hwl]
      refine loop_wp (ι := Nat × List (AV × AV) × Nat) (fun k => { env := [(0, .vs z 1 rows), (5, .mp (some mp)), (6, .i .i64 (i : Nat)), (7, .vs zw 6 wrows), (30, .vs z 1 rows), (31, .i .i64 (logs.length : Nat)), (32, .i .i64 (i : Nat)), (37, .vs zw 6 wrows), (38, .i .i64 ((logAt logs i).length : Nat)), (39, .i .i64 (k.1 : Nat))], loc := [], hp := [(mp, (0, .mp k.2.1))], nx := k.2.2 }) (fun k => (logAt logs i).length - k.1)
        (fun k => k.1 ≤ (logAt logs i).length ∧ mp < k.2.2 ∧ Good logs i k.1 ∧ ∃ M, MapOk logs i k.1 M ∧ MapV k.2.1 M) (0, es, _) rfl ⟨Nat.zero_le _, by simp only; omega, hG, M, hM, hMV⟩ (by simp; unfold big at hK; omega) ?_
      clear hG hM hMV hmp M
      rintro Next2 ⟨k, es2, nx2⟩ ⟨hk, hmp, hG, M, hM, hMV⟩ hnext2
      simp only at hk hmp hG hM hMV hnext2
      by_cases hkl : k < (logAt logs i).length
      · obtain ⟨r, hr⟩ : ∃ r, (logAt logs i)[k]? = some r := ⟨_, List.getElem?_eq_getElem hkl⟩
        have hrm := List.mem_of_getElem? hr
        have hcan := he _ (List.mem_of_getElem? hlq) r hrm
        obtain ⟨zp, za, hrc, _, _⟩ := recs_at hw hr
        have hrb := hlb.each r hrm
        have hin := p_contI (K := K) (n := m) hK (by omega) zp r.parts i hrb.parts
        have hP := hcan.2.1
        have hpl := hP.1
        obtain ⟨x, hx⟩ : ∃ x, r.parts[r.parts.length - 1]? = some x := ⟨_, List.getElem?_eq_getElem (by omega)⟩
        have hxr := int_row hx
        have hlast := hP.last (m := logs.length) hx
        have wl : IntKind.i64.wrap ((r.parts.length : Int) - 1) = ((r.parts.length - 1 : Nat) : Int) := by have := hrb.parts; rw [wrap_i64 (by omega) (by omega)]; omega
        have hpl1 : r.parts.length - 1 < r.parts.length := by omega
        have k1 : (k : Int) < (logAt logs i).length := by omega
        have k3 : IntKind.i64.wrap ((k : Int) + 1) = ((k + 1 : Nat) : Int) := by rw [wrap_i64 (by omega) (by omega)]; omega
        have zwf : zw = false := by
          cases zw with
          | false => rfl
          | true => have := (hwz rfl).1; rw [this] at hr; simp at hr
        subst zwf
        have hor : ¬ 0 < k ∨ (0 < k ∧ ∃ (j : Nat) (a : Rec) (zp' za' : Bool), IntKind.i64.wrap ((k : Int) - 1) = (j : Int) ∧ wrows[j]? = some (recCells zp' za' a) ∧ j + 1 = k ∧ (logAt logs i)[j]? = some a) := by
          by_cases k0 : 0 < k
          · obtain ⟨a, ha⟩ : ∃ a, (logAt logs i)[k - 1]? = some a := ⟨_, List.getElem?_eq_getElem (by omega)⟩
            obtain ⟨zp', za', hac, _, _⟩ := recs_at hw ha
            exact .inr ⟨k0, k - 1, a, zp', za', by rw [wrap_i64 (by omega) (by omega)]; omega, hac, by omega, ha⟩
          · exact .inl k0
        by_cases hrise : ∀ (j : Nat) (a : Rec), j + 1 = k → (logAt logs i)[j]? = some a → a.id < r.id
        · have hor2 : ¬ 0 < k ∨ (0 < k ∧ ∃ (j : Nat) (a : Rec) (zp' za' : Bool), IntKind.i64.wrap ((k : Int) - 1) = (j : Int) ∧ wrows[j]? = some (recCells zp' za' a) ∧ ¬ (r.id : Int) ≤ a.id) := by
            rcases hor with h | ⟨k0, j, a, zp', za', wj, hac, hjk, hja⟩
            · exact .inl h
            · have := hrise j a hjk hja
              exact .inr ⟨k0, j, a, zp', za', wj, hac, by omega⟩
          by_cases hown : (i : Int) ∈ r.parts
          · have hin' : pR (callA cfg K m) 56 [.vs zp 1 (ints r.parts), .i .i64 (i : Nat)] = some (.b true) := by rw [hin]; simp [hown]
            by_cases hxl : (x : Int) < logs.length
            · have hxl' : ¬ (logs.length : Int) ≤ x := by omega
              have hfit : FitAt logs i (logAt logs i) k r := ⟨hrise, hown, hlast.1 hxl⟩
              obtain ⟨ps, hpe, hps⟩ := hMV
              have hnx2 : ∀ (M' : Nat → Option Rec) (es' : List (AV × AV)) (N' : Nat), mp < N' → Good logs i (k + 1) → MapOk logs i (k + 1) M' → MapV es' M' → Next2 { env := [(0, .vs z 1 rows), (5, .mp (some mp)), (6, .i .i64 (i : Nat)), (7, .vs false 6 wrows), (30, .vs z 1 rows), (31, .i .i64 (logs.length : Nat)), (32, .i .i64 (i : Nat)), (37, .vs false 6 wrows), (38, .i .i64 ((logAt logs i).length : Nat)), (39, .i .i64 ((k + 1 : Nat) : Int))], loc := [], hp := [(mp, (0, .mp es'))], nx := N' } := fun M' es' N' h1 h2 h3 h4 => hnext2 (k + 1, es', N') (by simp only; omega) ⟨by simp only; omega, by simp only; exact h1, h2, M', h3, h4⟩
              have hfi : (ps.find? (fun e => e.1 == r.id)) = none ∨ ∃ k' zp' za' w, (ps.find? (fun e => e.1 == r.id)) = some (k', zp', za', w) := by
                cases ps.find? (fun e => e.1 == r.id) with
                | none => exact .inl rfl
                | some kx => exact .inr ⟨kx.1, kx.2.1, kx.2.2.1, kx.2.2.2, rfl⟩
              rcases hfi with hfi | ⟨k', zp', za', w, hfi⟩
              · have hfa : findA (.int .u64) (.i .u64 (r.id : Nat)) es2 0 = some none := by rw [hpe]; exact find_none ps 0 hfi
                have hMn : M r.id = none := by rw [hps, hfi]; rfl
                obtain ⟨g1, g2⟩ := hG.step hM hlq hr hfit (fun w h => by rw [hMn] at h; cases h)
                have hV : MapV (es2 ++ [(.i .u64 (r.id : Nat), .agg (recCells zp za r))]) (fun id => if id = r.id then some r else M id) := by
                  refine ⟨ps ++ [(r.id, zp, za, r)], by rw [hpe]; simp, fun id => ?_⟩
                  simp only [List.find?_append, hps]
                  by_cases e : id = r.id
                  · subst e; rw [hfi, if_pos rfl]; simp
                  · have : (r.id == id) = false := by simp; omega
                    rw [if_neg e]
                    simp [this]
                clear hnext hnext2
                rcases hor2 with k0 | ⟨k0, j, a, zp', za', wj, hac, hle⟩
                · simp [k1, hrc, recCells, k0, hin', wl, hxr, hpl1, hrl, hxl', hfa, k3]
                  refine ⟨⟨by kernel_rfl, by kernel_rfl⟩, ?_⟩
                  exact hnx2 _ _ _ (by omega) g1 g2 hV
                · simp [k1, hrc, hac, recCells, k0, wj, hle, hin', wl, hxr, hpl1, hrl, hxl', hfa, k3]
                  refine ⟨⟨by kernel_rfl, by kernel_rfl⟩, ?_⟩
                  exact hnx2 _ _ _ (by omega) g1 g2 hV
              · obtain ⟨i', hfa0, hi', hset⟩ := find_some ps 0 hfi
                have hfa : findA (.int .u64) (.i .u64 (r.id : Nat)) es2 0 = some (some (i', AV.agg [.i .u64 (w.id : Nat), .i .u64 (w.client : Nat), .i .u64 (w.seq : Nat), .vs zp' 1 (ints w.parts), .s w.proc, .vs za' 3 (valRows w.args)])) := by rw [hpe]; exact hfa0
                have hMn : M r.id = some w := by rw [hps, hfi]; rfl
                obtain ⟨⟨q1, q2, lw, hlw, hwq, _⟩, hwid⟩ := hM.1 _ _ hMn
                have hwm := List.mem_of_getElem? hwq
                have hlwm := List.mem_of_getElem? hlw
                have hcw := he _ hlwm w hwm
                have hwb := (hB.log _ hlwm).each w hwm
                have hsm := p_same (K := K) (n := m) hK (by omega) zp' za' zp za w r hwb hcw.2.2.2.2.2
                unfold recCells at hsm
                by_cases hss : sameRec w r
                · rw [sameB_yes hss] at hsm
                  obtain ⟨g1, g2⟩ := hG.step hM hlq hr hfit (fun w' h => by rw [hMn] at h; cases h; exact hss)
                  have hV : MapV (es2.set i' (.i .u64 (r.id : Nat), .agg (recCells zp za r))) (fun id => if id = r.id then some r else M id) := by
                    refine ⟨ps.set i' (r.id, zp, za, r), by rw [hpe, List.map_set], fun id => ?_⟩
                    simp only [hset, hps]
                    by_cases e : id = r.id
                    · subst e; rw [if_pos rfl, if_pos rfl]; rfl
                    · rw [if_neg e, if_neg e]
                  clear hnext hnext2
                  rcases hor2 with k0 | ⟨k0, j, a, zp2, za2, wj, hac, hle⟩
                  · simp [k1, hrc, recCells, k0, hin', wl, hxr, hpl1, hrl, hxl', hfa, hsm, k3]
                    refine ⟨⟨by kernel_rfl, by kernel_rfl⟩, ?_⟩
                    exact hnx2 _ _ _ (by omega) g1 g2 hV
                  · simp [k1, hrc, hac, recCells, k0, wj, hle, hin', wl, hxr, hpl1, hrl, hxl', hfa, hsm, k3]
                    refine ⟨⟨by kernel_rfl, by kernel_rfl⟩, ?_⟩
                    exact hnx2 _ _ _ (by omega) g1 g2 hV
                · rw [sameB_no hss] at hsm
                  have hcf := hno (not_fits hM hlq hr hMn hss)
                  rcases hor2 with k0 | ⟨k0, j, a, zp2, za2, wj, hac, hle⟩
                  · simp [k1, hrc, recCells, k0, hin', wl, hxr, hpl1, hrl, hxl', hfa, hsm, hcf]
                    exact ⟨by kernel_rfl, by kernel_rfl⟩
                  · simp [k1, hrc, hac, recCells, k0, wj, hle, hin', wl, hxr, hpl1, hrl, hxl', hfa, hsm, hcf]
                    exact ⟨by kernel_rfl, by kernel_rfl⟩
            · have hcf := hno fun h => hxl (hlast.2 (h.at hlq hr).last)
              have hxl' : (logs.length : Int) ≤ x := by omega
              rcases hor2 with k0 | ⟨k0, j, a, zp', za', wj, hac, hle⟩
              · simp [k1, hrc, recCells, k0, hin', wl, hxr, hpl1, hrl, hxl', hcf]
                exact ⟨by kernel_rfl, by kernel_rfl⟩
              · simp [k1, hrc, hac, recCells, k0, wj, hle, hin', wl, hxr, hpl1, hrl, hxl', hcf]
                exact ⟨by kernel_rfl, by kernel_rfl⟩
          · have hin' : pR (callA cfg K m) 56 [.vs zp 1 (ints r.parts), .i .i64 (i : Nat)] = some (.b false) := by rw [hin]; simp [hown]
            have hcf := hno fun h => hown (h.at hlq hr).own
            rcases hor2 with k0 | ⟨k0, j, a, zp', za', wj, hac, hle⟩
            · simp [k1, hrc, recCells, k0, hin', hcf]
              exact ⟨by kernel_rfl, by kernel_rfl⟩
            · simp [k1, hrc, hac, recCells, k0, wj, hle, hin', hcf]
              exact ⟨by kernel_rfl, by kernel_rfl⟩
        · have hcf := hno fun h => hrise (h.at hlq hr).rise
          rcases hor with k0 | ⟨k0, j, a, zp', za', wj, hac, hjk, hja⟩
          · exact absurd (fun j a e => by omega) hrise
          · have hle : (r.id : Int) ≤ a.id := by
              rcases Nat.lt_or_ge a.id r.id with h | h
              · refine absurd (fun j' a' e ha' => ?_) hrise
                have : j' = j := by omega
                subst this
                rw [hja] at ha'; cases ha'; exact h
              · omega
            simp [k1, hrc, hac, recCells, k0, wj, hle, hcf]
            exact ⟨by kernel_rfl, by kernel_rfl⟩
      · have hkl2 : k = (logAt logs i).length := by omega
        subst hkl2
        have d3 : IntKind.i64.wrap ((i : Int) + 1) = ((i + 1 : Nat) : Int) := by rw [wrap_i64 (by omega) (by omega)]; omega
        simp [d3]
        exact hnext (i + 1, es2, _, mp) (by simp only; omega) ⟨by simp only; omega, by simp only; omega, hG.row hlq (Nat.le_refl _), M, hM.row hlq (Nat.le_refl _), hMV⟩
    · have hil2 : i = logs.length := by omega
      subst hil2
      have hF := good_end hG
      have : chk logs = 0 := by rw [hc1, if_pos hF]
      simp [this]

end Ab
end Go.Proofs.YtidoflgcblglbaaDoor
