/-
  DERIVED. LOGS told outright; lockstepref26.find; slices.IndexFunc, ContainsFunc over records; recovery.check$1; slices.BinarySearchFunc.
  Conditions: enough rounds, enough depth; bounded lengths.
-/
import Derived.Test.YtidoflgcblglbaaDoorWB
set_option linter.all false
set_option maxHeartbeats 4000000
namespace Go.Proofs.YtidoflgcblglbaaDoor
namespace Ab
open Go.Lib
set_option maxRecDepth 100000
set_option maxHeartbeats 4000000
set_option linter.all false
attribute [local simp] wp_region regionA opsA nCall rCall goCallR pCall pnCall lenA appendA appRow newsA rowsSz rowsOf isIntD makeSliceA elemOf rowsBuilt eqA eq1

/-- A record's row, its lists told outright. -/
def RecC (c : List AV) (r : Rec) : Prop := ∃ zp za, c = recCells zp za r ∧ (zp = true → r.parts = []) ∧ (za = true → r.args = [])
def RecsV (v : AV) (l : List Rec) : Prop := ∃ z rows, v = .vs z 6 rows ∧ rows.length = l.length ∧ (z = true → l = []) ∧ ∀ (i : Nat) (c : List AV) (r : Rec), rows[i]? = some c → l[i]? = some r → RecC c r
def LogsV (v : AV) (logs : Logs) : Prop := ∃ z rows, v = .vs z 1 rows ∧ rows.length = logs.length ∧ (z = true → logs = []) ∧ ∀ (i : Nat) (c : List AV) (l : List Rec), rows[i]? = some c → logs[i]? = some l → ∃ w, c = [w] ∧ RecsV w l
structure LogB (l : List Rec) : Prop where
  len : l.length ≤ 2 ^ 20
  each : ∀ r ∈ l, RecB r
structure LogsB (logs : Logs) : Prop where
  len : logs.length ≤ 2 ^ 20
  log : ∀ l ∈ logs, LogB l
theorem row_at {rows : List (List AV)} {l : List Rec} (hl : rows.length = l.length) {i : Nat} {r : Rec} (hr : l[i]? = some r) : ∃ c, rows[i]? = some c ∧ ∀ g, rows[i]'g = c := by
  have h := (List.getElem?_eq_some_iff.1 hr).1
  exact ⟨rows[i], List.getElem?_eq_getElem (by omega), fun g => rfl⟩
theorem RecsV.take {v : AV} {l : List Rec} {z : Bool} {rows : List (List AV)} (hv : v = .vs z 6 rows) (h : RecsV v l) (n : Nat) : RecsV (.vs z 6 (rows.take n)) (l.take n) := by
  obtain ⟨z', rows', e, h1, h2, h3⟩ := h
  rw [hv] at e; cases e
  refine ⟨z, _, rfl, by simp [h1], fun h => by rw [h2 h]; simp, fun i c r hc hr => ?_⟩
  have hi := (List.getElem?_eq_some_iff.1 hr).1
  rw [List.length_take] at hi
  rw [List.getElem?_take_of_lt (by omega)] at hc hr
  exact h3 i c r hc hr
theorem p_rfind {K n : Nat} (hK : big K) (hn : 1 ≤ n) {v : AV} {l : List Rec} (hv : RecsV v l) (hl : l.length ≤ 2 ^ 20) (id : Nat) : pR (callA cfg K n) 60 [v, .i .u64 (id : Nat)] = some (.i .i64 (match findId l id with | some i => (i : Nat) | none => -1)) := by
  obtain ⟨n, rfl⟩ : ∃ m, n = m + 1 := ⟨n - 1, by omega⟩
  obtain ⟨z, rows, rfl, hrl, _, hrow⟩ := hv
  refine pr_of rfl ?_ rfl
  refine run_wp Tryd.func60 rfl (by simp [Tryd.f60]) ?_
  simp
  refine loop_wp (ι := Nat × Nat) (fun i => { env := [(0, .vs z 6 rows), (1, .i .u64 (id : Nat)), (5, .i .i64 (i.1 : Nat))], loc := [], hp := [], nx := i.2 }) (fun i => l.length - i.1)
    (fun i => i.1 ≤ l.length ∧ ∀ r ∈ l.take i.1, r.id ≠ id) (0, _) rfl ⟨Nat.zero_le _, by simp⟩ (by simp; unfold big at hK; omega) ?_
  rintro Next ⟨i, nx⟩ ⟨hi, he⟩ hnext
  simp only at hi he hnext
  by_cases hlt : i < l.length
  · obtain ⟨r, hr⟩ : ∃ r, l[i]? = some r := ⟨_, List.getElem?_eq_getElem hlt⟩
    obtain ⟨c, hc, hc2⟩ := row_at hrl hr
    obtain ⟨zp, za, rfl, _, _⟩ := hrow i c r hc hr
    have c1 : (i : Int) < l.length := by omega
    have hlt2 : i < rows.length := by omega
    have c3 : IntKind.i64.wrap ((i : Int) + 1) = ((i + 1 : Nat) : Int) := by rw [wrap_i64 (by omega) (by omega)]; omega
    by_cases g : r.id = id
    · have g1 : ((r.id : Int) == id) = true := by simp [g]
      have hf : findId l id = some i := by
        unfold findId
        rw [List.findIdx?_eq_some_iff_getElem]
        refine ⟨hlt, by rw [List.getElem?_eq_getElem hlt] at hr; rw [Option.some.inj hr]; simp [g], fun j hj => ?_⟩
        have := he l[j] (List.mem_iff_getElem?.2 ⟨j, by rw [List.getElem?_take_of_lt hj]; exact List.getElem?_eq_getElem _⟩)
        simpa using this
      simp [hrl, c1, hc, recCells, g1, hf]
    · have g1 : ((r.id : Int) == id) = false := by simp; omega
      simp [hrl, c1, hc, recCells, g1, c3]
      exact hnext (i + 1, _) (by simp only; omega) ⟨by simp only; omega, fun w hw => by
        simp only at hw
        rw [List.take_add_one, hr] at hw
        rcases List.mem_append.1 hw with hw | hw
        · exact he w hw
        · simp at hw; rw [hw]; exact g⟩
  · have hil : i = l.length := by omega
    subst hil
    rw [List.take_length] at he
    have hf : findId l id = none := by
      unfold findId
      rw [List.findIdx?_eq_none_iff]
      intro r hr
      simpa using he r hr
    simp [hrl, hf]

end Ab
end Go.Proofs.YtidoflgcblglbaaDoor

/-
  DERIVED. recovery.check$1, slices.IndexFunc, ContainsFunc over records; slices.BinarySearchFunc.
  Conditions: enough rounds, enough depth; bounded lengths.
-/
namespace Go.Proofs.YtidoflgcblglbaaDoor
namespace Ab
open Go.Lib
set_option maxRecDepth 100000
set_option maxHeartbeats 4000000
set_option linter.all false
attribute [local simp] convA wp_region regionA opsA nCall rCall goCallR pCall pnCall lenA appendA appRow newsA rowsSz rowsOf isIntD makeSliceA elemOf rowsBuilt eqA eq1

theorem p_checkC {K n : Nat} (hK : big K) (hn : 6 ≤ n) (zp za : Bool) (r : Rec) (hB : RecB r) : pR (callA cfg K n) 54 [.agg (recCells zp za r)] = some (.b (!canB r)) := by
  obtain ⟨n, rfl⟩ : ∃ m, n = m + 1 := ⟨n - 1, by omega⟩
  refine pr_of rfl ?_ rfl
  refine run_wp Tryd.func54 rfl (by simp [Tryd.f54]) ?_
  have h := p_can (K := K) (n := n) hK (by omega) zp za r hB
  have h' := h
  unfold recCells at h'
  simp [recCells, h']
theorem p_ixR {K n : Nat} (hK : big K) (hn : 7 ≤ n) {v : AV} {l : List Rec} (hv : RecsV v l) (hB : LogB l) : ∃ y : Int, pR (callA cfg K n) 75 [v, .fn 54 []] = some (.i .i64 y) ∧ (0 ≤ y ↔ ∃ r ∈ l, ¬ CanR r) := by
  obtain ⟨n, rfl⟩ : ∃ m, n = m + 1 := ⟨n - 1, by omega⟩
  obtain ⟨z, rows, rfl, hrl, _, hrow⟩ := hv
  have hl := hB.len
  have hc0 := fun (zp za : Bool) (r : Rec) (hr : r ∈ l) => p_checkC (K := K) (n := n) hK (by omega) zp za r (hB.each r hr)
  have key : ∀ y : Int, ((∃ (i : Nat) (r : Rec), y = i ∧ l[i]? = some r ∧ canB r = false ∧ ∀ x ∈ l.take i, canB x = true) ∨ (y = -1 ∧ ∀ x ∈ l, canB x = true)) → pR (callA cfg K (n + 1)) 75 [.vs z 6 rows, .fn 54 []] = some (.i .i64 y) := by
    intro y hy
    refine pr_of rfl ?_ rfl
    refine run_wp Tryd.func75 rfl (by simp [Tryd.f75]) ?_
    simp [hrl]
    refine loop_wp (ι := Nat × Nat) (fun i => { env := [(0, .vs z 6 rows), (1, .fn 54 []), (7, .i .i64 (l.length : Nat)), (8, .i .i64 (i.1 : Nat))], loc := [], hp := [], nx := i.2 }) (fun i => l.length - i.1)
      (fun i => i.1 ≤ l.length ∧ ∀ x ∈ l.take i.1, canB x = true) (0, _) rfl ⟨Nat.zero_le _, by simp⟩ (by simp; unfold big at hK; omega) ?_
    rintro Next ⟨i, nx⟩ ⟨hi, he⟩ hnext
    simp only at hi he hnext
    by_cases hlt : i < l.length
    · obtain ⟨r, hr⟩ : ∃ r, l[i]? = some r := ⟨_, List.getElem?_eq_getElem hlt⟩
      have hrm := List.mem_of_getElem? hr
      obtain ⟨c, hc, hc2⟩ := row_at hrl hr
      obtain ⟨zp, za, rfl, _, _⟩ := hrow i c r hc hr
      have c1 : (i : Int) < l.length := by omega
      have c3 : IntKind.i64.wrap ((i : Int) + 1) = ((i + 1 : Nat) : Int) := by rw [wrap_i64 (by omega) (by omega)]; omega
      have hcc := hc0 zp za r hrm
      unfold recCells at hcc
      cases g : canB r with
      | true =>
        simp [c1, hc, recCells, hcc, g, c3]
        exact hnext (i + 1, _) (by simp only; omega) ⟨by simp only; omega, fun w hw => by
          simp only at hw
          rw [List.take_add_one, hr] at hw
          rcases List.mem_append.1 hw with hw | hw
          · exact he w hw
          · simp at hw; rw [hw]; exact g⟩
      | false =>
        have hyi : y = i := by
          rcases hy with ⟨j, x, h1, h2, h3, h4⟩ | ⟨h1, h2⟩
          · rcases Nat.lt_trichotomy i j with h | h | h
            · have := h4 r (List.mem_iff_getElem?.2 ⟨i, by rw [List.getElem?_take_of_lt h]; exact hr⟩)
              rw [g] at this; cases this
            · rw [h1, h]
            · have := he x (List.mem_iff_getElem?.2 ⟨j, by rw [List.getElem?_take_of_lt h]; exact h2⟩)
              rw [h3] at this; cases this
          · have := h2 r hrm; rw [g] at this; cases this
        simp [c1, hc, recCells, hcc, g, hyi]
    · have hil : i = l.length := by omega
      subst hil
      rw [List.take_length] at he
      have hyi : y = -1 := by
        rcases hy with ⟨j, x, h1, h2, h3, h4⟩ | ⟨h1, h2⟩
        · have := he x (List.mem_of_getElem? h2); rw [h3] at this; cases this
        · exact h1
      simp [hyi]
  have hcan : ∀ r : Rec, canB r = false ↔ ¬ CanR r := fun r => by simp [canB]
  have fst : ∀ m : List Rec, (∃ r ∈ m, ¬ CanR r) → ∃ (i : Nat) (r : Rec), m[i]? = some r ∧ canB r = false ∧ ∀ x ∈ m.take i, canB x = true := by
    intro m
    induction m with
    | nil => rintro ⟨r, h, _⟩; simp at h
    | cons a m ih =>
      intro h
      by_cases g : CanR a
      · obtain ⟨r, hr, hr2⟩ := h
        rcases List.mem_cons.1 hr with rfl | hr
        · exact absurd g hr2
        · obtain ⟨i, x, h1, h2, h3⟩ := ih ⟨r, hr, hr2⟩
          refine ⟨i + 1, x, by simpa using h1, h2, fun w hw => ?_⟩
          rw [List.take_succ_cons] at hw
          rcases List.mem_cons.1 hw with rfl | hw
          · exact canB_yes g
          · exact h3 w hw
      · exact ⟨0, a, rfl, canB_no g, by simp⟩
  by_cases hx : ∃ r ∈ l, ¬ CanR r
  · obtain ⟨i, r, h1, h2, h3⟩ := fst l hx
    exact ⟨(i : Nat), key _ (.inl ⟨i, r, rfl, h1, h2, h3⟩), by simp only [hx, iff_true]; omega⟩
  · refine ⟨-1, key _ (.inr ⟨rfl, fun x hm => ?_⟩), by simp only [hx, iff_false]; omega⟩
    have := fun e => hx ⟨x, hm, e⟩
    exact canB_yes (Classical.not_not.1 this)
open Classical in
theorem p_cfR {K n : Nat} (hK : big K) (hn : 8 ≤ n) {v : AV} {l : List Rec} (hv : RecsV v l) (hB : LogB l) : pR (callA cfg K n) 53 [v, .fn 54 []] = some (.b (decide (∃ r ∈ l, ¬ CanR r))) := by
  obtain ⟨n, rfl⟩ : ∃ m, n = m + 1 := ⟨n - 1, by omega⟩
  obtain ⟨y, h, hy⟩ := p_ixR (K := K) (n := n) hK (by omega) hv hB
  obtain ⟨z, rows, rfl, hrl, _, hrow⟩ := hv
  refine pr_of rfl ?_ rfl
  refine run_wp Tryd.func53 rfl (by simp [Tryd.f53]) ?_
  by_cases g : ∃ r ∈ l, ¬ CanR r
  · have g2 := hy.2 g
    simp [h, g2]
    simpa using g
  · have g2 : ¬ 0 ≤ y := fun e => g (hy.1 e)
    simp [h, g2]
    simpa using g
theorem p_evCC {K n : Nat} (hn : 1 ≤ n) (zp za : Bool) (r : Rec) (id : Nat) : pR (callA cfg K n) 84 [.agg (recCells zp za r), .i .u64 (id : Nat)] = some (.i .i64 (if r.id < id then -1 else if id < r.id then 1 else 0)) := by
  obtain ⟨n, rfl⟩ : ∃ m, n = m + 1 := ⟨n - 1, by omega⟩
  refine pr_of rfl ?_ rfl
  refine run_wp Tryd.func84 rfl (by simp [Tryd.f84]) ?_
  by_cases h1 : r.id < id
  · have h1' : (r.id : Int) < id := by omega
    simp [recCells, h1', h1]
  · have h1' : ¬ (r.id : Int) < id := by omega
    by_cases h2 : id < r.id
    · have h2' : (id : Int) < r.id := by omega
      simp [recCells, h1', h2', h1, h2]
    · have h2' : ¬ (id : Int) < r.id := by omega
      simp [recCells, h1', h2', h1, h2]
theorem p_bsF {K n : Nat} (hK : big K) (hn : 2 ≤ n) {v : AV} {l : List Rec} (hv : RecsV v l) (hl : l.length ≤ 2 ^ 20) (hR : Rising l) (id : Nat) : ∃ y : Nat, pR (callA cfg K n) 83 [v, .i .u64 (id : Nat), .fn 84 []] = some (.tup [.i .i64 (y : Nat), .b (hasId l id)]) := by
  obtain ⟨n, rfl⟩ : ∃ m, n = m + 1 := ⟨n - 1, by omega⟩
  obtain ⟨z, rows, rfl, hrl, _, hrow⟩ := hv
  have hcc := fun (zp za : Bool) (r : Rec) => p_evCC (K := K) (n := n) (by omega) zp za r id
  -- the place
  obtain ⟨y, hy1, hy2, hy3⟩ : ∃ y : Nat, y ≤ l.length ∧ (∀ (k : Nat) (r : Rec), k < y → l[k]? = some r → r.id < id) ∧ ∀ (k : Nat) (r : Rec), y ≤ k → l[k]? = some r → id ≤ r.id := by
    cases hf : l.findIdx? (fun r => decide (id ≤ r.id)) with
    | none =>
      rw [List.findIdx?_eq_none_iff] at hf
      exact ⟨l.length, Nat.le_refl _, fun k r _ hr => by have := hf r (List.mem_of_getElem? hr); simpa using this, fun k r hk hr => by have := (List.getElem?_eq_some_iff.1 hr).1; omega⟩
    | some y =>
      obtain ⟨h1, h2, h3⟩ := List.findIdx?_eq_some_iff_getElem.1 hf
      refine ⟨y, Nat.le_of_lt h1, fun k r hk hr => ?_, fun k r hk hr => ?_⟩
      · have := h3 k hk
        rw [List.getElem?_eq_getElem (by omega)] at hr
        cases hr
        simpa using this
      · have h4 : id ≤ (l[y]).id := by simpa using h2
        rcases Nat.lt_or_eq_of_le hk with h5 | h5
        · obtain ⟨d, rfl⟩ : ∃ d, k = y + d + 1 := ⟨k - y - 1, by omega⟩
          have := hR.lt (List.getElem?_eq_getElem h1) hr
          omega
        · subst h5
          rw [List.getElem?_eq_getElem h1] at hr
          cases hr; exact h4
  refine ⟨y, ?_⟩
  refine pr_of rfl ?_ rfl
  refine run_wp Tryd.func83 rfl (by simp [Tryd.f83]) ?_
  simp [hrl]
  refine loop_wp (ι := Nat × Nat × Nat) (fun i => { env := [(0, .vs z 6 rows), (1, .i .u64 (id : Nat)), (2, .fn 84 []), (8, .i .i64 (l.length : Nat)), (9, .i .i64 (i.1 : Nat)), (10, .i .i64 (i.2.1 : Nat))], loc := [], hp := [], nx := i.2.2 }) (fun i => i.2.1 - i.1)
    (fun i => i.1 ≤ y ∧ y ≤ i.2.1 ∧ i.2.1 ≤ l.length) (0, l.length, _) rfl ⟨Nat.zero_le _, hy1, Nat.le_refl _⟩ (by simp; unfold big at hK; omega) ?_
  rintro Next ⟨i, j, nx⟩ ⟨hi, hj, hjl⟩ hnext
  simp only at hi hj hjl hnext
  by_cases hlt : i < j
  · have c1 : (i : Int) < j := by omega
    obtain ⟨m, hm⟩ : ∃ m, m = (i + j) / 2 := ⟨_, rfl⟩
    have w1 : IntKind.i64.wrap ((i : Int) + j) = ((i + j : Nat) : Int) := by rw [wrap_i64 (by omega) (by omega)]; omega
    obtain ⟨r, hr⟩ : ∃ r, l[m]? = some r := ⟨_, List.getElem?_eq_getElem (by omega)⟩
    obtain ⟨c, hc, hc2⟩ := row_at hrl hr
    obtain ⟨zp, za, rfl, _, _⟩ := hrow m c r hc hr
    have hcr := hcc zp za r
    unfold recCells at hcr
    have w2 : IntKind.u64.wrap ((i : Int) + j) = (i : Int) + j := wrap_u64i (by omega) (by omega)
    have w3 : IntKind.i64.wrap (((i : Int) + j).fdiv (2 ^ min 1 IntKind.u64.bits)) = (m : Int) := by
      rw [show (2 ^ min 1 IntKind.u64.bits : Int) = 2 from rfl, Int.fdiv_eq_ediv_of_nonneg _ (by omega), wrap_i64 (by omega) (by omega)]
      omega
    have w1' : IntKind.i64.wrap ((i : Int) + j) = (i : Int) + j := by rw [w1]; omega
    by_cases g : r.id < id
    · rw [if_pos g] at hcr
      have w4 : IntKind.i64.wrap ((m : Int) + 1) = ((m + 1 : Nat) : Int) := by rw [wrap_i64 (by omega) (by omega)]; omega
      have hmy : m < y := by
        rcases Nat.lt_or_ge m y with h | h
        · exact h
        · have := hy3 m r h hr; omega
      simp [c1, w1', w2, w3, hc, recCells, hcr, w4]
      exact hnext (m + 1, j, _) (by simp only; omega) ⟨by simp only; omega, by simp only; omega, by simp only; omega⟩
    · have hg2 : ∃ x : Int, (x = 0 ∨ x = 1) ∧ (if r.id < id then (-1 : Int) else if id < r.id then 1 else 0) = x := by
        rw [if_neg g]
        by_cases g2 : id < r.id
        · exact ⟨1, .inr rfl, by rw [if_pos g2]⟩
        · exact ⟨0, .inl rfl, by rw [if_neg g2]⟩
      obtain ⟨x, hx, hx2⟩ := hg2
      rw [hx2] at hcr
      have hx3 : ¬ x < 0 := by rcases hx with rfl | rfl <;> omega
      have hmy : y ≤ m := by
        rcases Nat.lt_or_ge m y with h | h
        · have := hy2 m r h hr; omega
        · exact h
      simp [c1, w1', w2, w3, hc, recCells, hcr, hx3]
      exact hnext (i, m, _) (by simp only; omega) ⟨by simp only; omega, by simp only; omega, by simp only; omega⟩
  · have hiy : i = y := by omega
    have hjy : j = y := by omega
    subst hiy
    subst hjy
    clear hnext
    by_cases hyl : j < l.length
    · obtain ⟨r, hr⟩ : ∃ r, l[j]? = some r := ⟨_, List.getElem?_eq_getElem hyl⟩
      obtain ⟨c, hc, hc2⟩ := row_at hrl hr
      obtain ⟨zp, za, rfl, _, _⟩ := hrow j c r hc hr
      have hcr := hcc zp za r
      unfold recCells at hcr
      have c2 : (j : Int) < l.length := by omega
      have hge := hy3 j r (Nat.le_refl _) hr
      rw [if_neg (by omega)] at hcr
      by_cases g2 : id < r.id
      · rw [if_pos g2] at hcr
        have hh : hasId l id = false := by
          rw [Bool.eq_false_iff]
          intro h
          obtain ⟨x, hx, e⟩ := hasId_iff.1 h
          obtain ⟨k, hk⟩ := List.mem_iff_getElem?.1 hx
          rcases Nat.lt_or_ge k j with h1 | h1
          · have := hy2 k x h1 hk; omega
          · rcases Nat.lt_or_eq_of_le h1 with h2 | h2
            · obtain ⟨d, rfl⟩ : ∃ d, k = j + d + 1 := ⟨k - j - 1, by omega⟩
              have := hR.lt hr hk; omega
            · subst h2; rw [hr] at hk; cases hk; omega
        simp [c2, hyl, hc, recCells, hcr, hh]
      · rw [if_neg g2] at hcr
        have hh : hasId l id = true := hasId_iff.2 ⟨r, List.mem_of_getElem? hr, by omega⟩
        simp [c2, hyl, hc, recCells, hcr, hh]
    · have hh : hasId l id = false := by
        rw [Bool.eq_false_iff]
        intro h
        obtain ⟨x, hx, e⟩ := hasId_iff.1 h
        obtain ⟨k, hk⟩ := List.mem_iff_getElem?.1 hx
        have h1 := (List.getElem?_eq_some_iff.1 hk).1
        have := hy2 k x (by omega) hk; omega
      have hjl2 : j = l.length := by omega
      simp [hjl2, hh]

end Ab
end Go.Proofs.YtidoflgcblglbaaDoor
