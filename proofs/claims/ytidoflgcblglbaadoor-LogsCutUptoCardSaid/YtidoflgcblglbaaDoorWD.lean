/-
  DERIVED. recovery.everywhere, lockstepref26.counts: whether a record counts in all its partitions.
  Conditions: enough rounds, enough depth; bounded lengths.
-/
import Derived.Test.YtidoflgcblglbaaDoorWC
set_option linter.all false
set_option maxHeartbeats 4000000
namespace Go.Proofs.YtidoflgcblglbaaDoor
namespace Ab
open Go.Lib
set_option maxRecDepth 100000
set_option maxHeartbeats 4000000
set_option linter.all false
attribute [local simp] wp_region regionA opsA nCall rCall goCallR pCall pnCall lenA appendA appRow newsA rowsSz rowsOf isIntD makeSliceA elemOf rowsBuilt eqA eq1

/-- How many of each log count, as a slice of ints. -/
def natRows (n : List Nat) : List (List AV) := n.map fun x => [.i .i64 (x : Nat)]
@[simp] theorem natRows_len (n : List Nat) : (natRows n).length = n.length := by simp [natRows]
theorem natRows_get {n : List Nat} {i x : Nat} (h : n[i]? = some x) : (natRows n)[i]? = some [.i .i64 (x : Nat)] := by simp [natRows, h]
/-- What counting asks: partitions that are there, as many as are there. -/
structure CutB (logs : Logs) (n : List Nat) (r : Rec) : Prop where
  len : n.length = logs.length
  le : ∀ i, nAt n i ≤ (logAt logs i).length
  par : ∀ p ∈ r.parts, 0 ≤ p ∧ p < logs.length
theorem p_evC {K m : Nat} (hK : big K) (hm : 3 ≤ m) {v : AV} {logs : Logs} (hv : LogsV v logs) (hB : LogsB logs) (hR : ∀ i, Rising (logAt logs i)) (zn : Bool) {n : List Nat} (zp za : Bool) {r : Rec} (hC : CutB logs n r) {p : Int} (hp : p ∈ r.parts) :
    pR (callA cfg K m) 82 [.i .i64 p, .vp [v], .vp [.vs zn 1 (natRows n)], .vp (recCells zp za r)] = some (.b (!hasId ((logAt logs p.toNat).take (nAt n p.toNat)) r.id)) := by
  obtain ⟨m, rfl⟩ : ∃ k, m = k + 1 := ⟨m - 1, by omega⟩
  obtain ⟨h0, h1⟩ := hC.par p hp
  obtain ⟨i, rfl⟩ : ∃ i : Nat, p = i := ⟨p.toNat, (Int.toNat_of_nonneg h0).symm⟩
  have hi : i < logs.length := by omega
  obtain ⟨z, rows, rfl, hrl, _, hrow⟩ := hv
  have hl : logs[i]? = some logs[i] := List.getElem?_eq_getElem hi
  have hla : logAt logs i = logs[i] := by unfold logAt; rw [hl]; rfl
  obtain ⟨c, hc⟩ : ∃ c, rows[i]? = some c := ⟨_, List.getElem?_eq_getElem (by omega)⟩
  obtain ⟨w, rfl, hw⟩ := hrow i c _ hc hl
  obtain ⟨zw, wrows, rfl, hwl, hwz, hwr⟩ := hw
  have hn : n[i]? = some (nAt n i) := by
    unfold nAt
    rw [List.getElem?_eq_getElem (by rw [hC.len]; exact hi)]
    rfl
  have hn2 := natRows_get hn
  have hle := hC.le i
  rw [hla] at hle
  have hlb := hB.log _ (List.mem_of_getElem? hl)
  have hRt : Rising ((logs[i]).take (nAt n i)) := by rw [← hla]; exact rising_take (hR i) _
  obtain ⟨y, hy⟩ := p_bsF (K := K) (n := m) hK (by omega) (RecsV.take (v := .vs zw 6 wrows) rfl ⟨zw, wrows, rfl, hwl, hwz, hwr⟩ (nAt n i)) (by rw [List.length_take]; have := hlb.len; omega) hRt r.id
  rw [Int.toNat_natCast, hla]
  refine pr_of rfl ?_ rfl
  refine run_wp Tryd.func82 rfl (by simp [Tryd.f82]) ?_
  have hiw : i < rows.length := by omega
  have hin : i < n.length := by rw [hC.len]; exact hi
  cases zw with
  | true =>
    have e := hwz rfl
    have hw0 : wrows = [] := List.eq_nil_of_length_eq_zero (by rw [hwl, e]; rfl)
    subst hw0
    have n0 : nAt n i = 0 := by rw [e] at hle; simpa using hle
    have hh : hasId ([] : List Rec) r.id = false := rfl
    rw [n0] at hy hn2 ⊢
    simp only [List.take_zero] at hy ⊢
    rw [hh] at hy ⊢
    simp [recCells, hc, hn2, hy]
    exact ⟨by kernel_rfl, by kernel_rfl⟩
  | false =>
    simp [recCells, hc, hn2, hwl, hle, hy]
    exact ⟨by kernel_rfl, by kernel_rfl⟩

end Ab
end Go.Proofs.YtidoflgcblglbaaDoor

/-
  DERIVED. slices.IndexFunc, ContainsFunc over ints with a closure; recovery.everywhere.
  Conditions: enough rounds, enough depth; bounded lengths.
-/
namespace Go.Proofs.YtidoflgcblglbaaDoor
namespace Ab
open Go.Lib
set_option maxRecDepth 100000
set_option maxHeartbeats 4000000
set_option linter.all false
attribute [local simp] wp_region regionA opsA nCall rCall goCallR pCall pnCall lenA appendA appRow newsA rowsSz rowsOf isIntD makeSliceA elemOf rowsBuilt eqA eq1

theorem p_ixFI {K n : Nat} (hK : big K) (z : Bool) (l : List Int) (hl : l.length ≤ 2 ^ 20) {c1 c2 c3 : List AV} (f : Int → Bool) (hf : ∀ p ∈ l, pR (callA cfg K n) 82 [.i .i64 p, .vp c1, .vp c2, .vp c3] = some (.b (f p))) : ∃ y : Int, pR (callA cfg K (n + 1)) 103 [.vs z 1 (ints l), .fn 82 [.vp c1, .vp c2, .vp c3]] = some (.i .i64 y) ∧ (0 ≤ y ↔ ∃ p ∈ l, f p = true) := by
  have key : ∀ y : Int, ((∃ (i : Nat) (p : Int), y = i ∧ l[i]? = some p ∧ f p = true ∧ ∀ x ∈ l.take i, f x = false) ∨ (y = -1 ∧ ∀ x ∈ l, f x = false)) → pR (callA cfg K (n + 1)) 103 [.vs z 1 (ints l), .fn 82 [.vp c1, .vp c2, .vp c3]] = some (.i .i64 y) := by
    intro y hy
    refine pr_of rfl ?_ rfl
    refine run_wp Tryd.func103 rfl (by simp [Tryd.f103]) ?_
    simp
    refine loop_wp (ι := Nat × Nat) (fun i => { env := [(0, .vs z 1 (ints l)), (1, .fn 82 [.vp c1, .vp c2, .vp c3]), (7, .i .i64 (l.length : Nat)), (8, .i .i64 (i.1 : Nat))], loc := [], hp := [], nx := i.2 }) (fun i => l.length - i.1)
      (fun i => i.1 ≤ l.length ∧ ∀ x ∈ l.take i.1, f x = false) (0, _) rfl ⟨Nat.zero_le _, by simp⟩ (by simp; unfold big at hK; omega) ?_
    rintro Next ⟨i, nx⟩ ⟨hi, he⟩ hnext
    simp only at hi he hnext
    by_cases hlt : i < l.length
    · obtain ⟨p, hp⟩ : ∃ p, l[i]? = some p := ⟨_, List.getElem?_eq_getElem hlt⟩
      have hpm := List.mem_of_getElem? hp
      have q1 : (i : Int) < l.length := by omega
      have hr2 := int_row hp
      have q3 : IntKind.i64.wrap ((i : Int) + 1) = ((i + 1 : Nat) : Int) := by rw [wrap_i64 (by omega) (by omega)]; omega
      have hfp := hf p hpm
      cases g : f p with
      | false =>
        rw [g] at hfp
        simp [q1, hr2, hlt, hfp, q3]
        exact hnext (i + 1, _) (by simp only; omega) ⟨by simp only; omega, fun w hw => by
          simp only at hw
          rw [List.take_add_one, hp] at hw
          rcases List.mem_append.1 hw with hw | hw
          · exact he w hw
          · simp at hw; rw [hw]; exact g⟩
      | true =>
        rw [g] at hfp
        have hyi : y = i := by
          rcases hy with ⟨j, x, h1, h2, h3, h4⟩ | ⟨h1, h2⟩
          · rcases Nat.lt_trichotomy i j with h | h | h
            · have := h4 p (List.mem_iff_getElem?.2 ⟨i, by rw [List.getElem?_take_of_lt h]; exact hp⟩)
              rw [g] at this; cases this
            · rw [h1, h]
            · have := he x (List.mem_iff_getElem?.2 ⟨j, by rw [List.getElem?_take_of_lt h]; exact h2⟩)
              rw [h3] at this; cases this
          · have := h2 p hpm; rw [g] at this; cases this
        simp [q1, hr2, hlt, hfp, hyi]
    · have hil : i = l.length := by omega
      subst hil
      rw [List.take_length] at he
      have hyi : y = -1 := by
        rcases hy with ⟨j, x, h1, h2, h3, h4⟩ | ⟨h1, h2⟩
        · have := he x (List.mem_of_getElem? h2); rw [h3] at this; cases this
        · exact h1
      simp [hyi]
  have fst : ∀ m : List Int, (∃ r ∈ m, f r = true) → ∃ (i : Nat) (r : Int), m[i]? = some r ∧ f r = true ∧ ∀ x ∈ m.take i, f x = false := by
    intro m
    induction m with
    | nil => rintro ⟨r, h, _⟩; simp at h
    | cons a m ih =>
      intro h
      cases g : f a with
      | false =>
        obtain ⟨r, hr, hr2⟩ := h
        rcases List.mem_cons.1 hr with rfl | hr
        · rw [g] at hr2; cases hr2
        · obtain ⟨i, x, h1, h2, h3⟩ := ih ⟨r, hr, hr2⟩
          refine ⟨i + 1, x, by simpa using h1, h2, fun w hw => ?_⟩
          rw [List.take_succ_cons] at hw
          rcases List.mem_cons.1 hw with rfl | hw
          · exact g
          · exact h3 w hw
      | true => exact ⟨0, a, rfl, g, by simp⟩
  by_cases hx : ∃ r ∈ l, f r = true
  · obtain ⟨i, r, h1, h2, h3⟩ := fst l hx
    exact ⟨(i : Nat), key _ (.inl ⟨i, r, rfl, h1, h2, h3⟩), by simp only [hx, iff_true]; omega⟩
  · refine ⟨-1, key _ (.inr ⟨rfl, fun x hm => ?_⟩), by simp only [hx, iff_false]; omega⟩
    cases g : f x with
    | false => rfl
    | true => exact absurd ⟨x, hm, g⟩ hx
theorem p_cfI {K n : Nat} (hK : big K) (z : Bool) (l : List Int) (hl : l.length ≤ 2 ^ 20) {c1 c2 c3 : List AV} (f : Int → Bool) (hf : ∀ p ∈ l, pR (callA cfg K n) 82 [.i .i64 p, .vp c1, .vp c2, .vp c3] = some (.b (f p))) : pR (callA cfg K (n + 2)) 81 [.vs z 1 (ints l), .fn 82 [.vp c1, .vp c2, .vp c3]] = some (.b (l.any f)) := by
  obtain ⟨y, h, hy⟩ := p_ixFI hK z l hl f hf
  refine pr_of rfl ?_ rfl
  refine run_wp Tryd.func81 rfl (by simp [Tryd.f81]) ?_
  by_cases g : ∃ r ∈ l, f r = true
  · have g2 := hy.2 g
    have g3 : l.any f = true := by rw [List.any_eq_true]; exact g
    simp [h, g2, g3]
  · have g2 : ¬ 0 ≤ y := fun e => g (hy.1 e)
    have g3 : l.any f = false := by
      rw [Bool.eq_false_iff]
      intro e
      exact g (List.any_eq_true.1 e)
    simp [h, g2, g3]
theorem p_everywhere {K m : Nat} (hK : big K) (hm : 6 ≤ m) {v : AV} {logs : Logs} (hv : LogsV v logs) (hB : LogsB logs) (hR : ∀ i, Rising (logAt logs i)) (zn : Bool) {n : List Nat} (zp za : Bool) {r : Rec} (hC : CutB logs n r) (hl : r.parts.length ≤ 2 ^ 20) :
    pR (callA cfg K m) 61 [v, .vs zn 1 (natRows n), .agg (recCells zp za r)] = some (.b (cntR logs n r)) := by
  obtain ⟨m, rfl⟩ : ∃ k, m = k + 3 := ⟨m - 3, by omega⟩
  have h := p_cfI (K := K) (n := m) hK zp r.parts hl (c1 := [v]) (c2 := [.vs zn 1 (natRows n)]) (c3 := recCells zp za r) _ (fun p hp => p_evC hK (by omega) hv hB hR zn zp za hC hp)
  have hc : (!(r.parts.any fun p => !hasId ((logAt logs p.toNat).take (nAt n p.toNat)) r.id)) = cntR logs n r := by
    unfold cntR
    rw [List.not_any_eq_all_not]
    simp
  obtain ⟨z, rows, rfl, hrl, _, hrow⟩ := hv
  refine pr_of rfl ?_ rfl
  refine run_wp Tryd.func61 rfl (by simp [Tryd.f61]) ?_
  unfold recCells at h
  simp [recCells, h]
  simpa using hc

end Ab
end Go.Proofs.YtidoflgcblglbaaDoor

/-
  DERIVED. lockstepref26.counts.
  Conditions: enough rounds, enough depth; bounded lengths.
-/
namespace Go.Proofs.YtidoflgcblglbaaDoor
namespace Ab
open Go.Lib
set_option maxRecDepth 100000
set_option maxHeartbeats 4000000
set_option linter.all false
attribute [local simp] wp_region regionA opsA nCall rCall goCallR pCall pnCall lenA appendA appRow newsA rowsSz rowsOf isIntD makeSliceA elemOf rowsBuilt eqA eq1

/-- A log at a partition, as a slice's element. -/
theorem log_at {z : Bool} {rows : List (List AV)} {logs : Logs} (hv : LogsV (.vs z 1 rows) logs) {i : Nat} (hi : i < logs.length) : ∃ zw wrows, rows[i]? = some [.vs zw 6 wrows] ∧ RecsV (.vs zw 6 wrows) (logAt logs i) ∧ logs[i]? = some (logAt logs i) ∧ wrows.length = (logAt logs i).length ∧ (zw = true → logAt logs i = [] ∧ wrows = []) := by
  obtain ⟨z', rows', e, hrl, _, hrow⟩ := hv
  cases e
  have hl : logs[i]? = some logs[i] := List.getElem?_eq_getElem hi
  have hla : logAt logs i = logs[i] := by unfold logAt; rw [hl]; rfl
  obtain ⟨c, hc⟩ : ∃ c, rows[i]? = some c := ⟨_, List.getElem?_eq_getElem (by omega)⟩
  obtain ⟨w, rfl, hw⟩ := hrow i c _ hc hl
  have hw2 := hw
  obtain ⟨zw, wrows, rfl, hwl, hwz, hwr⟩ := hw
  rw [hla]
  exact ⟨zw, wrows, hc, hw2, hl, hwl, fun h => ⟨hwz h, List.eq_nil_of_length_eq_zero (by rw [hwl, hwz h]; rfl)⟩⟩
theorem p_counts {K m : Nat} (hK : big K) (hm : 2 ≤ m) {v : AV} {logs : Logs} (hv : LogsV v logs) (hB : LogsB logs) (zn : Bool) {n : List Nat} (zp za : Bool) {r : Rec} (hC : CutB logs n r) (hl : r.parts.length ≤ 2 ^ 20) :
    pR (callA cfg K m) 35 [v, .vs zn 1 (natRows n), .agg (recCells zp za r)] = some (.b (cntR logs n r)) := by
  obtain ⟨m, rfl⟩ : ∃ k, m = k + 1 := ⟨m - 1, by omega⟩
  have hv0 := hv
  obtain ⟨z, rows, rfl, hrl, _, _⟩ := hv0
  refine pr_of rfl ?_ rfl
  refine run_wp Tryd.func35 rfl (by simp [Tryd.f35]) ?_
  simp [recCells]
  refine loop_wp (ι := Nat × Nat) (fun i => { env := [(0, .vs z 1 rows), (1, .vs zn 1 (natRows n)), (5, .lp 5 0 0), (7, .i .i64 (i.1 : Nat))], loc := [(5, (0, .cells (recCells zp za r)))], hp := [], nx := i.2 }) (fun i => r.parts.length - i.1)
    (fun i => i.1 ≤ r.parts.length ∧ ∀ p ∈ r.parts.take i.1, hasId ((logAt logs p.toNat).take (nAt n p.toNat)) r.id = true) (0, _) rfl ⟨Nat.zero_le _, by simp⟩ (by simp; unfold big at hK; omega) ?_
  rintro Next ⟨i, nx⟩ ⟨hi, he⟩ hnext
  simp only at hi he hnext
  by_cases hlt : i < r.parts.length
  · obtain ⟨p, hp⟩ : ∃ p, r.parts[i]? = some p := ⟨_, List.getElem?_eq_getElem hlt⟩
    have hpm := List.mem_of_getElem? hp
    obtain ⟨h0, h1⟩ := hC.par p hpm
    obtain ⟨q, rfl⟩ : ∃ q : Nat, p = q := ⟨p.toNat, (Int.toNat_of_nonneg h0).symm⟩
    have hq : q < logs.length := by omega
    obtain ⟨zw, wrows, hc, hw, hlq, hwl, hwz⟩ := log_at hv hq
    have hn : n[q]? = some (nAt n q) := by
      unfold nAt
      rw [List.getElem?_eq_getElem (by rw [hC.len]; exact hq)]
      rfl
    have hn2 := natRows_get hn
    have hle := hC.le q
    have hlb := hB.log _ (List.mem_of_getElem? hlq)
    have hfd := p_rfind (K := K) (n := m) hK (by omega) (RecsV.take (v := .vs zw 6 wrows) rfl hw (nAt n q)) (by rw [List.length_take]; have := hlb.len; omega) r.id
    have c1 : (i : Int) < r.parts.length := by omega
    have hr2 := int_row hp
    have c3 : IntKind.i64.wrap ((i : Int) + 1) = ((i + 1 : Nat) : Int) := by rw [wrap_i64 (by omega) (by omega)]; omega
    have hx : ∃ y : Int, pR (callA cfg K m) 60 [.vs zw 6 (wrows.take (nAt n q)), .i .u64 (r.id : Nat)] = some (.i .i64 y) ∧ (y < 0 ↔ hasId ((logAt logs q).take (nAt n q)) r.id = false) := by
      cases hf : findId ((logAt logs q).take (nAt n q)) r.id with
      | some j =>
        rw [hf] at hfd
        refine ⟨j, hfd, ?_⟩
        obtain ⟨b, h2, h3⟩ := findId_some hf
        have : hasId ((logAt logs q).take (nAt n q)) r.id = true := hasId_iff.2 ⟨b, List.mem_of_getElem? h2, h3⟩
        rw [this]
        simp
      | none =>
        rw [hf] at hfd
        refine ⟨-1, hfd, ?_⟩
        have : hasId ((logAt logs q).take (nAt n q)) r.id = false := by
          rw [Bool.eq_false_iff]
          intro h
          obtain ⟨x, hx, e⟩ := hasId_iff.1 h
          rw [findId, List.findIdx?_eq_none_iff] at hf
          have := hf x hx
          simp [e] at this
        rw [this]
        simp
    clear hfd
    obtain ⟨y, hfd, hy2⟩ := hx
    have hnx : hasId ((logAt logs q).take (nAt n q)) r.id = true → ∀ N' : Nat, Next { env := [(0, .vs z 1 rows), (1, .vs zn 1 (natRows n)), (5, .lp 5 0 0), (7, .i .i64 ((i + 1 : Nat) : Int))], loc := [(5, (0, .cells (recCells zp za r)))], hp := [], nx := N' } := fun hh N' => hnext (i + 1, N') (by simp only; omega) ⟨by simp only; omega, fun w hw => by
        simp only at hw
        rw [List.take_add_one, hp] at hw
        rcases List.mem_append.1 hw with hw | hw
        · exact he w hw
        · simp at hw; rw [hw]; simpa using hh⟩
    have hno : hasId ((logAt logs q).take (nAt n q)) r.id = false → cntR logs n r = false := fun hh => by
      rw [Bool.eq_false_iff]
      intro h
      unfold cntR at h
      rw [List.all_eq_true] at h
      have := h _ hpm
      rw [Int.toNat_natCast, hh] at this
      cases this
    cases zw with
    | true =>
      obtain ⟨e1, rfl⟩ := hwz rfl
      have n0 : nAt n q = 0 := by rw [e1] at hle; simpa using hle
      have hh : hasId ((logAt logs q).take (nAt n q)) r.id = false := by rw [e1]; simp [hasId]
      have y0 := hy2.2 hh
      have hcf := hno hh
      rw [n0] at hfd hn2
      simp only [List.take_zero] at hfd
      simp [recCells, c1, hr2, hlt, hc, hn2, hfd, y0, hcf]
      exact ⟨by kernel_rfl, by kernel_rfl⟩
    | false =>
      cases hh : hasId ((logAt logs q).take (nAt n q)) r.id with
      | true =>
        have y0 : ¬ y < 0 := fun e => by have := hy2.1 e; rw [hh] at this; cases this
        simp [recCells, c1, hr2, hlt, hc, hn2, hwl, hle, hfd, y0, c3]
        refine ⟨⟨by kernel_rfl, by kernel_rfl⟩, ?_⟩
        exact hnx hh _
      | false =>
        have y0 := hy2.2 hh
        have hcf := hno hh
        simp [recCells, c1, hr2, hlt, hc, hn2, hwl, hle, hfd, y0, hcf]
        exact ⟨by kernel_rfl, by kernel_rfl⟩
  · have hil : i = r.parts.length := by omega
    subst hil
    rw [List.take_length] at he
    have : cntR logs n r = true := by
      unfold cntR
      rw [List.all_eq_true]
      exact he
    simp [recCells, this]

end Ab
end Go.Proofs.YtidoflgcblglbaaDoor
