/-
  DERIVED. recovery.cuts: how many of each log count.
  Conditions: enough rounds, enough depth; bounded lengths.
-/
import Derived.Test.YtidoflgcblglbaaDoorW14
set_option linter.all false
set_option maxHeartbeats 4000000
namespace Go.Proofs.YtidoflgcblglbaaDoor
namespace Ab
open Go.Lib
set_option maxRecDepth 100000
set_option maxHeartbeats 4000000
set_option linter.all false
attribute [local simp] wp_region regionA opsA nCall rCall goCallR pCall pnCall lenA appendA appRow newsA rowsSz rowsOf isIntD makeSliceA elemOf rowsBuilt eqA eq1

/-- What recovery.check answers (W15). -/
def CheckOk (K m : Nat) : Prop := ∀ {v : AV} {logs : Logs}, LogsV v logs → LogsB logs → pR (callA cfg K m) 31 [v] = some (.i .i64 (chk logs))
/-- What Cut answers. -/
def CutsQ (logs : Logs) (nx : Nat) (r : AV) (hp' : Hp) (nx' : Nat) : Prop := nx ≤ nx' ∧ (if chk logs = 0 then ∃ ka g, r = .tup [.rs ka g 0 logs.length 1, .i .i64 0] ∧ hp' = [(ka, (g, .arr 1 (natRows (cutAll logs))))] ∧ nx ≤ ka ∧ ka < nx' else r = .tup [.vs true 0 [], .i .i64 (chk logs)] ∧ hp' = [])
theorem nat_row {n : List Nat} {i x : Nat} (h : n[i]? = some x) : ∀ g, (natRows n)[i]'g = [.i .i64 (x : Nat)] := fun g => by
  have := natRows_get h
  rw [List.getElem?_eq_getElem g] at this
  exact Option.some.inj this
theorem frz_nat {get : Ref → Option AO} {d : Nat} : ∀ n : List Nat, mapO (mapO (frz get (d + 1))) (natRows n) = some (natRows n)
  | [] => rfl
  | x :: n => by
    have := frz_nat (get := get) (d := d) n
    simp only [natRows, List.map_cons, mapO, frz, Option.map_some] at this ⊢
    rw [this]
    rfl
theorem set_take {n m : List Nat} {i x : Nat} (hi : i < n.length) (h : n.take i = m.take i) (hx : m[i]? = some x) : (n.set i x).take (i + 1) = m.take (i + 1) := by
  rw [List.take_add_one, List.take_add_one, hx, List.getElem?_set_self hi, List.take_set_of_le (Nat.le_refl _), h]
theorem c_cuts {K m nx : Nat} (hK : big K) (hm : 12 ≤ m) (hck : ∀ m, 9 ≤ m → CheckOk K m) {v : AV} {logs : Logs} (hv : LogsV v logs) (hB : LogsB logs) (hsum : (logs.map List.length).sum ≤ 2 ^ 22) : Sp K m 34 [v] [] nx (CutsQ logs nx) := by
  refine sp_cps fun Q hQ => ?_
  obtain ⟨m, rfl⟩ : ∃ k, m = k + 1 := ⟨m - 1, by omega⟩
  have hv0 := hv
  obtain ⟨z, rows, rfl, hrl, _, _⟩ := hv0
  have hc := hck m (by omega) hv hB
  refine sp_of rfl (run_wp Tryd.func34 rfl (by simp [Tryd.f34]) ?_)
  by_cases h0 : chk logs = 0
  · have h0' : (chk logs != 0) = false := by simp [h0]
    have hF : Fits logs := by
      apply Classical.byContradiction
      intro h
      unfold chk at h0
      split at h0
      · cases h0
      · split at h0
        · cases h0
        · first | (cases h0; done) | (rw [if_neg h] at h0; cases h0)
    have hR := logAt_rise hF
    have hlen := hB.len
    have hmk : logs.length * 9 ≤ 68719476736 := by omega
    have hc' : pR (callA cfg K m) 31 [.vs z 1 rows] = some (.i .i64 0) := by rw [hc, h0]
    simp [hc', hrl, mostB, hmk]
    have hrep : List.replicate logs.length [AV.i .i64 0] = natRows (List.replicate logs.length 0) := by simp [natRows]
    rw [hrep]
    generalize hkn : nx + 2 + 3 + 2 + 2 = kn
    refine loop_wp (ι := Nat × List Nat × Nat) (fun i => { env := [(0, .vs z 1 rows), (5, .rs kn 0 0 logs.length 1), (21, .vs z 1 rows), (22, .i .i64 (logs.length : Nat)), (23, .i .i64 (i.1 : Nat))], loc := [], hp := [(kn, (0, .arr 1 (natRows i.2.1)))], nx := i.2.2 }) (fun i => logs.length - i.1)
      (fun i => i.1 ≤ logs.length ∧ kn < i.2.2 ∧ i.2.1.length = logs.length ∧ i.2.1.take i.1 = (logs.map List.length).take i.1) (0, List.replicate logs.length 0, _) rfl ⟨Nat.zero_le _, by simp only; omega, by simp, by simp⟩ (by simp; unfold big at hK; omega) ?_
    rintro Next ⟨i, n, N⟩ ⟨hi, hN, hnl, hnt⟩ hnext
    simp only at hi hN hnl hnt hnext
    by_cases hlt : i < logs.length
    · obtain ⟨zw, wrows, hcr, hw, hlq, hwl, hwz⟩ := log_at hv hlt
      have c1 : (i : Int) < logs.length := by omega
      have c3 : IntKind.i64.wrap ((i : Int) + 1) = ((i + 1 : Nat) : Int) := by rw [wrap_i64 (by omega) (by omega)]; omega
      have c4 : i < n.length := by omega
      have hset : (natRows n).set i [.i .i64 ((logAt logs i).length : Nat)] = natRows (n.set i (logAt logs i).length) := by simp [natRows, List.map_set]
      have hnr := nat_row (n := n) (i := i) (x := n[i]) (List.getElem?_eq_getElem c4)
      simp [c1, hcr, hwl, hlt, hnl, hnr, hset, c3]
      refine hnext (i + 1, n.set i (logAt logs i).length, _) (by simp only; omega) ⟨by simp only; omega, by simp only; omega, by simp [hnl], ?_⟩
      exact set_take c4 hnt (by rw [List.getElem?_map, hlq]; rfl)
    · have hil : i = logs.length := by omega
      subst hil
      have hnn : n = logs.map List.length := by
        have e1 : n.take logs.length = n := List.take_of_length_le (by omega)
        have e2 : (logs.map List.length).take logs.length = logs.map List.length := List.take_of_length_le (by simp)
        rw [e1, e2] at hnt
        exact hnt
      clear hnext
      simp
      refine loop_wp (ι := List Nat × Bool × Nat × List (Nat × AV)) (fun i => { env := [(0, .vs z 1 rows), (5, .rs kn 0 0 logs.length 1), (8, .b i.2.1)] ++ i.2.2.2, loc := [], hp := [(kn, (0, .arr 1 (natRows i.1)))], nx := i.2.2.1 }) (fun i => if i.2.1 then i.1.sum + 1 else 0)
        (fun i => (i.2.2.2 = [] ∨ i.2.2.2 = [(35, .vs z 1 rows), (36, .i .i64 (logs.length : Nat)), (37, .i .i64 (logs.length : Nat)), (38, .b false)]) ∧ kn < i.2.2.1 ∧ i.1.length = logs.length ∧ i.1.sum ≤ 2 ^ 22 ∧ (∀ p, nAt i.1 p ≤ (logAt logs p).length) ∧ cutF logs i.1 = cutAll logs ∧ (i.2.1 = false → cutTo logs i.1 logs.length = i.1)) (n, true, _, []) rfl ⟨.inl rfl, by simp only; omega, hnl, by rw [hnn]; exact hsum, ?_, by rw [hnn]; rfl, fun h => by cases h⟩ (by simp only [if_true]; rw [hnn]; unfold big at hK; omega) ?_
      · intro p
        show nAt n p ≤ _
        rw [hnn]
        unfold nAt logAt
        rw [List.getElem?_map]
        cases logs[p]? <;> simp
      rintro Next ⟨n1, ag, N1, e1⟩ ⟨he1, hN1, hn1, hs1, hle1, hcf, hag⟩ hnext
      simp only at he1 hN1 hn1 hs1 hle1 hcf hag hnext
      cases ag with
      | false =>
        have hstop := cutF_stop (hag rfl)
        rw [hstop] at hcf
        have hfin : ∀ N', nx ≤ N' → kn < N' → Q (.tup [.rs kn 0 0 logs.length 1, .i .i64 0]) [(kn, (0, .arr 1 (natRows n1)))] N' := fun N' q1 q2 => by
          refine hQ _ _ _ ⟨q1, ?_⟩
          rw [if_pos h0]
          exact ⟨kn, 0, rfl, by rw [hcf], by omega, q2⟩
        rcases he1 with rfl | rfl
        · simp
          exact hfin _ (by omega) (by omega)
        · simp
          exact hfin _ (by omega) (by omega)
      | true =>
        apply two he1
        · rintro rfl h
          simp [hrl]
          exact h
        · rintro rfl h
          simp [hrl]
          exact h
        refine loop_wp (ι := Nat × List Nat × Bool × Nat) (fun i => { env := [(0, .vs z 1 rows), (5, .rs kn 0 0 logs.length 1), (8, .b i.2.2.1), (35, .vs z 1 rows), (36, .i .i64 (logs.length : Nat)), (37, .i .i64 (i.1 : Nat))], loc := [], hp := [(kn, (0, .arr 1 (natRows i.2.1)))], nx := i.2.2.2 }) (fun i => logs.length - i.1)
          (fun i => i.1 ≤ logs.length ∧ kn < i.2.2.2 ∧ i.2.1 = cutTo logs n1 i.1 ∧ (i.2.2.1 = false → i.2.1 = n1) ∧ (i.2.2.1 = true → i.2.1.sum < n1.sum)) (0, n1, false, _) rfl ⟨Nat.zero_le _, by simp only; omega, rfl, fun _ => rfl, fun h => by cases h⟩ (by simp; unfold big at hK; omega) ?_
        rintro Next2 ⟨i, n2, ag, N2⟩ ⟨hi, hN2, hn2, hf2, ht2⟩ hnext2
        simp only at hi hN2 hn2 hf2 ht2 hnext2
        by_cases hlt : i < logs.length
        · obtain ⟨zw, wrows, hcr, hw, hlq, hwl, hwz⟩ := log_at hv hlt
          have hlb := hB.log _ (List.mem_of_getElem? hlq)
          have hll := hlb.len
          have c1 : (i : Int) < logs.length := by omega
          have c3 : IntKind.i64.wrap ((i : Int) + 1) = ((i + 1 : Nat) : Int) := by rw [wrap_i64 (by omega) (by omega)]; omega
          have hl2 : n2.length = logs.length := by rw [hn2, cutTo_len, hn1]
          have hle2 : ∀ p, nAt n2 p ≤ (logAt logs p).length := fun p => by rw [hn2]; exact Nat.le_trans (cutTo_le _ _ _ _) (hle1 p)
          have hni : n2[i]? = some (nAt n2 i) := by unfold nAt; rw [List.getElem?_eq_getElem (by omega)]; rfl
          have hnr := nat_row hni
          have hnr2 := natRows_get hni
          have hi2 : i < n2.length := by omega
          have hlei := hle2 i
          have hmin : min (nAt n2 i) (logAt logs i).length = nAt n2 i := by omega
          cases zw with
          | true =>
            obtain ⟨e1, rfl⟩ := hwz rfl
            have n0 : nAt n2 i = 0 := by rw [e1] at hlei; simpa using hlei
            have hcut : cutI logs n2 i = n2 := by
              unfold cutI failI
              rw [n0]
              rfl
            rw [n0] at hnr
            simp [c1, hcr, hi2, hlt, hl2, hnr]
            refine loop_wp (ι := Nat) (fun k => { env := [(0, .vs z 1 rows), (5, .rs kn 0 0 logs.length 1), (8, .b ag), (9, .i .i64 (i : Nat)), (35, .vs z 1 rows), (36, .i .i64 (logs.length : Nat)), (37, .i .i64 (i : Nat)), (47, .vs true 6 []), (48, .i .i64 0), (49, .i .i64 0)], loc := [], hp := [(kn, (0, .arr 1 (natRows n2)))], nx := k }) (fun k => 0)
              (fun k => kn < k) (N2 + 1 + 5 + 8) rfl (show kn < N2 + 1 + 5 + 8 by omega) (by show 0 < K; unfold big at hK; omega) ?_
            rintro Next3 N3 hN3 hnext3
            simp [c3]
            exact hnext2 (i + 1, n2, ag, _) (by simp only; omega) ⟨by simp only; omega, by simp only; omega, by simp only; rw [cutTo, ← hn2, hcut], hf2, ht2⟩
          | false =>
            simp [c1, hcr, hi2, hlt, hl2, hnr, hwl, hlei, hmin]
            refine loop_wp (ι := Nat × Nat) (fun k => { env := [(0, .vs z 1 rows), (5, .rs kn 0 0 logs.length 1), (8, .b ag), (9, .i .i64 (i : Nat)), (35, .vs z 1 rows), (36, .i .i64 (logs.length : Nat)), (37, .i .i64 (i : Nat)), (47, .vs false 6 (wrows.take (nAt n2 i))), (48, .i .i64 (nAt n2 i : Nat)), (49, .i .i64 (k.1 : Nat))], loc := [], hp := [(kn, (0, .arr 1 (natRows n2)))], nx := k.2 }) (fun k => nAt n2 i - k.1)
              (fun k => k.1 ≤ nAt n2 i ∧ kn < k.2 ∧ ∀ (q : Nat) (r : Rec), q < k.1 → (logAt logs i)[q]? = some r → cntR logs n2 r = true) (0, _) rfl ⟨Nat.zero_le _, by simp only; omega, fun q r h => by simp at h⟩ (by simp; unfold big at hK; omega) ?_
            rintro Next3 ⟨k, N3⟩ ⟨hk, hN3, hq⟩ hnext3
            simp only at hk hN3 hq hnext3
            by_cases hkl : k < nAt n2 i
            · obtain ⟨r, hr⟩ : ∃ r, (logAt logs i)[k]? = some r := ⟨_, List.getElem?_eq_getElem (by omega)⟩
              have hrm := List.mem_of_getElem? hr
              obtain ⟨zp, za, hrc, _, _⟩ := recs_at hw hr
              have hrb := hlb.each r hrm
              have hCB : CutB logs n2 r := ⟨hl2, hle2, hF.last i _ r hlq hrm⟩
              have hev := p_everywhere (K := K) (m := m) hK (by omega) hv hB hR false zp za hCB hrb.parts
              unfold recCells at hev
              have k1 : (k : Int) < nAt n2 i := by omega
              have k3 : IntKind.i64.wrap ((k : Int) + 1) = ((k + 1 : Nat) : Int) := by rw [wrap_i64 (by omega) (by omega)]; omega
              have hfz := fun get : Ref → Option AO => frz_nat (get := get) (d := 10) n2
              have htk : (natRows n2).take logs.length = natRows n2 := List.take_of_length_le (by simp; omega)
              cases g : cntR logs n2 r with
              | true =>
                rw [g] at hev
                simp [k1, hkl, hrc, recCells, hl2, htk, hfz, hev, k3]
                exact hnext3 (k + 1, _) (by simp only; omega) ⟨by simp only; omega, by simp only; omega, fun q x hqk hx => by
                  simp only at hqk
                  by_cases e : q = k
                  · subst e; rw [hr] at hx; cases hx; exact g
                  · exact hq q x (by omega) hx⟩
              | false =>
                rw [g] at hev
                have hset : (natRows n2).set i [.i .i64 (k : Nat)] = natRows (n2.set i k) := by simp [natRows, List.map_set]
                simp [k1, hkl, hrc, recCells, hl2, htk, hfz, hev, hlt, hnr, hi2, hset, c3]
                have hcut : cutI logs n2 i = n2.set i k := by
                  have hfl : failI logs n2 i = some k := by
                    unfold failI
                    rw [List.findIdx?_eq_some_iff_getElem]
                    have hkt : k < ((logAt logs i).take (nAt n2 i)).length := by rw [List.length_take]; omega
                    refine ⟨hkt, ?_, fun q hqk => ?_⟩
                    · rw [List.getElem_take]
                      rw [List.getElem?_eq_getElem (by omega)] at hr
                      rw [Option.some.inj hr, g]; rfl
                    · rw [List.getElem_take]
                      have := hq q _ hqk (List.getElem?_eq_getElem (by omega))
                      simp [this]
                  unfold cutI
                  rw [hfl]
                refine hnext2 (i + 1, n2.set i k, true, _) (by simp only; omega) ⟨by simp only; omega, by simp only; omega, ?_, fun h => (by cases h), fun _ => ?_⟩
                · show n2.set i k = _
                  rw [cutTo, ← hn2, hcut]
                · show (n2.set i k).sum < n1.sum
                  have h7 := sum_set hkl
                  cases ag with
                  | false => rw [hf2 rfl] at h7 ⊢; exact h7
                  | true => have := ht2 rfl; omega
            · have hke : k = nAt n2 i := by omega
              have hcut : cutI logs n2 i = n2 := by
                have hfl : failI logs n2 i = none := by
                  unfold failI
                  rw [List.findIdx?_eq_none_iff]
                  intro x hx
                  obtain ⟨q, hq1⟩ := List.mem_iff_getElem?.1 hx
                  have hq2 := (List.getElem?_eq_some_iff.1 hq1).1
                  rw [List.length_take] at hq2
                  rw [List.getElem?_take_of_lt (by omega)] at hq1
                  have := hq q x (by omega) hq1
                  simp [this]
                unfold cutI
                rw [hfl]
              have hkl' : ¬ (k : Int) < nAt n2 i := by omega
              simp [hkl', hkl, c3]
              exact hnext2 (i + 1, n2, ag, _) (by simp only; omega) ⟨by simp only; omega, by simp only; omega, by simp only; rw [cutTo, ← hn2, hcut], hf2, ht2⟩
        · have hil2 : i = logs.length := by omega
          subst hil2
          simp
          have hl2 : n2.length = logs.length := by rw [hn2, cutTo_len, hn1]
          have hle2 : ∀ p, nAt n2 p ≤ (logAt logs p).length := fun p => by rw [hn2]; exact Nat.le_trans (cutTo_le _ _ _ _) (hle1 p)
          have hcf2 : cutF logs n2 = cutAll logs := by rw [hn2, cutF_step, hcf]
          have hs2 : n2.sum ≤ 2 ^ 22 := by
            cases ag with
            | false => rw [hf2 rfl]; exact hs1
            | true => have := ht2 rfl; omega
          refine hnext (n2, ag, _, _) ?_ ⟨.inr rfl, by simp only; omega, hl2, hs2, hle2, hcf2, fun h => ?_⟩
          · cases ag with
            | false => simp
            | true => have := ht2 rfl; simp only [if_true]; omega
          · simp only at h
            rw [hf2 h] at hn2 ⊢
            exact hn2.symm
  · have h0' : (chk logs != 0) = true := by simp [h0]
    simp [hc, h0']
    exact hQ _ _ _ ⟨by omega, by rw [if_neg h0]; exact ⟨rfl, rfl⟩⟩

end Ab
end Go.Proofs.YtidoflgcblglbaaDoor
