/-
  DERIVED. recovery.Cut.
  Conditions: enough rounds, enough depth; bounded lengths.
-/
import Derived.Test.YtidoflgcblglbaaDoorW16
import Derived.Test.YtidoflgcblglbaaDoorW15
set_option linter.all false
set_option maxHeartbeats 4000000
namespace Go.Proofs.YtidoflgcblglbaaDoor
namespace Ab
open Go.Lib
set_option maxRecDepth 100000
set_option maxHeartbeats 4000000
set_option linter.all false
attribute [local simp] wp_region regionA opsA nCall rCall goCallR pCall pnCall lenA appendA appRow newsA rowsSz rowsOf isIntD makeSliceA elemOf rowsBuilt eqA eq1

theorem checkOk {K m : Nat} (hK : big K) (hm : 9 ≤ m) : CheckOk K m := fun hv hB => p_check hK hm hv hB
theorem nov_nat (n : List Nat) : (natRows n).all (fun r => r.all nov1) = true := by
  simp [natRows, nov1]
theorem c_pCut {K m nx : Nat} (hK : big K) (hm : 13 ≤ m) {v : AV} {logs : Logs} (hv : LogsV v logs) (hB : LogsB logs) (hsum : (logs.map List.length).sum ≤ 2 ^ 22) : Sp K m 10 [v] [] nx (CutsQ logs nx) := by
  refine sp_cps fun Q hQ => ?_
  obtain ⟨m, rfl⟩ : ∃ k, m = k + 1 := ⟨m - 1, by omega⟩
  have hcu := fun N => c_cuts (K := K) (m := m) (nx := N) hK (by omega) (fun m hm => checkOk hK hm) hv hB hsum
  obtain ⟨z, rows, rfl, hrl, _, _⟩ := hv
  refine sp_of rfl (run_wp Tryd.func10 rfl (by simp [Tryd.f10]) ?_)
  obtain ⟨r, hp', nx', h, h1, h2⟩ := hcu (nx + 2 + 6)
  by_cases h0 : chk logs = 0
  · rw [if_pos h0] at h2
    obtain ⟨ka, g, rfl, rfl, h3, h4⟩ := h2
    have hn : (natRows (cutAll logs)).all (fun r => r.all nov1) = true := nov_nat _
    simp [h, nov, nov1, novO, hn]
    exact hQ _ _ _ ⟨by omega, by rw [if_pos h0]; exact ⟨ka, g, rfl, rfl, by omega, by omega⟩⟩
  · rw [if_neg h0] at h2
    obtain ⟨rfl, rfl⟩ := h2
    simp [h, nov, nov1, novO]
    exact hQ _ _ _ ⟨by omega, by rw [if_neg h0]; exact ⟨rfl, rfl⟩⟩

end Ab
end Go.Proofs.YtidoflgcblglbaaDoor

/-
  DERIVED. lockstepref26.Cut.
  Conditions: enough rounds, enough depth; bounded lengths.
-/
namespace Go.Proofs.YtidoflgcblglbaaDoor
namespace Ab
open Go.Lib
set_option maxRecDepth 100000
set_option maxHeartbeats 4000000
set_option linter.all false
attribute [local simp] wp_region regionA opsA nCall rCall goCallR pCall pnCall lenA appendA appRow newsA rowsSz rowsOf isIntD makeSliceA elemOf rowsBuilt eqA eq1

theorem lk_set {α : Type} (l : List (Nat × α)) (k j : Nat) (x : α) : lk (up l k x) j = if j = k then some x else lk l j := by
  induction l with
  | nil => simp only [up, lk]; split <;> split <;> simp_all
  | cons e l ih =>
    obtain ⟨a, y⟩ := e
    by_cases h : a = k
    · subst h
      simp only [up, if_true, lk]
      by_cases h2 : a = j
      · simp [h2]
      · have : ¬ j = a := fun e => h2 e.symm
        simp [h2, this]
    · simp only [up, h, if_false, lk, ih]
      by_cases h2 : a = j
      · subst h2; simp [h]
      · simp [h2]
theorem shown_nat (n : List Nat) : shown (natRows n) 0 n.length = natRows n := shown_all (by simp)
/-- What Cut answers, whatever else is laid. -/
def CutsW (logs : Logs) (nx : Nat) (r : AV) (hp' : Hp) (nx' : Nat) : Prop := nx ≤ nx' ∧ (∀ j x, lk hp' j = some x → nx ≤ j ∧ j < nx') ∧ (if chk logs = 0 then ∃ ka g, r = .tup [.rs ka g 0 logs.length 1, .i .i64 0] ∧ lk hp' ka = some (g, .arr 1 (natRows (cutAll logs))) ∧ nx ≤ ka ∧ ka < nx' else r = .tup [.vs true 0 [], .i .i64 (chk logs)])
theorem c_rCut {K m nx : Nat} (hK : big K) (hm : 12 ≤ m) {v : AV} {logs : Logs} (hv : LogsV v logs) (hB : LogsB logs) (hsum : (logs.map List.length).sum ≤ 2 ^ 22) : Sp K m 11 [v] [] nx (CutsW logs nx) := by
  refine sp_cps fun Q hQ => ?_
  obtain ⟨m, rfl⟩ : ∃ k, m = k + 1 := ⟨m - 1, by omega⟩
  have hv0 := hv
  obtain ⟨z, rows, rfl, hrl, _, _⟩ := hv0
  have hc := p_rCheck (K := K) (m := m) hK (by omega) hv hB
  refine sp_of rfl (run_wp Tryd.func11 rfl (by simp [Tryd.f11]) ?_)
  by_cases h0 : chk logs = 0
  · have hlg : 1 ≤ logs.length ∧ Fits logs := by
      apply Classical.byContradiction
      intro h
      unfold chk at h0
      split at h0
      · cases h0
      · rename_i h1
        split at h0
        · cases h0
        · split at h0
          · rename_i h2
            exact h ⟨by omega, h2⟩
          · cases h0
    obtain ⟨hl1, hF⟩ := hlg
    have hR := logAt_rise hF
    have hlen := hB.len
    have hc' : pR (callA cfg K m) 9 [.vs z 1 rows] = some (.i .i64 0) := by rw [hc, h0]
    simp [hc']
    refine loop_wp (ι := Nat × AV × Hp × Nat) (fun i => { env := [(0, .vs z 1 rows), (5, i.2.1), (6, .i .i64 (i.1 : Nat))], loc := [], hp := i.2.2.1, nx := i.2.2.2 }) (fun i => logs.length - i.1)
      (fun i => i.1 ≤ logs.length ∧ nx ≤ i.2.2.2 ∧ (∀ j x, lk i.2.2.1 j = some x → nx ≤ j ∧ j < i.2.2.2) ∧ ((i.1 = 0 ∧ i.2.1 = .vs true 0 []) ∨ ∃ kn g, i.2.1 = .rs kn g 0 i.1 1 ∧ lk i.2.2.1 kn = some (g, .arr 1 (natRows ((logs.map List.length).take i.1))) ∧ nx ≤ kn ∧ kn < i.2.2.2)) (0, .vs true 0 [], [], _) rfl ⟨Nat.zero_le _, by simp only; omega, fun j x h => (by cases h), .inl ⟨rfl, rfl⟩⟩ (by simp; unfold big at hK; omega) ?_
    rintro Next ⟨i, sv, hp, N⟩ ⟨hi, hN, hkeys, hsv⟩ hnext
    simp only at hi hN hkeys hsv hnext
    by_cases hlt : i < logs.length
    · obtain ⟨zw, wrows, hcr, hw, hlq, hwl, hwz⟩ := log_at hv hlt
      have c1 : (i : Int) < logs.length := by omega
      have c3 : IntKind.i64.wrap ((i : Int) + 1) = ((i + 1 : Nat) : Int) := by rw [wrap_i64 (by omega) (by omega)]; omega
      have htk : (logs.map List.length).take (i + 1) = (logs.map List.length).take i ++ [(logAt logs i).length] := by
        rw [List.take_add_one, List.getElem?_map, hlq]; rfl
      rcases hsv with ⟨i0, rfl⟩ | ⟨kn, g, rfl, hlk, h1, h2⟩
      · subst i0
        have c0 : 0 < logs.length := hlt
        have hcr0 : ∀ h, rows[0]'h = [.vs zw 6 wrows] := fun h => by rw [List.getElem?_eq_getElem h] at hcr; exact Option.some.inj hcr
        simp [hrl, c0, hcr0, hwl, mostB, lk_set, wrap1]
        have hn1 := hnext (1, .rs (N + 4 + 7) 0 0 1 1, up (up hp (N + 4 + 6) (0, AO.arr 1 [[.i .i64 ((logAt logs 0).length : Nat)]])) (N + 4 + 7) (0, AO.arr 1 [[.i .i64 ((logAt logs 0).length : Nat)]]), N + 4 + 9 + 3)
        simp only at hn1
        refine hn1 (by omega) ⟨by omega, by omega, fun j x h => ?_, .inr ⟨N + 4 + 7, 0, rfl, ?_, by omega, by omega⟩⟩
        · simp only [lk_set] at h
          split at h
          · omega
          · split at h
            · omega
            · have := hkeys j x h; omega
        · show lk _ (N + 4 + 7) = some (0, AO.arr 1 (natRows ((logs.map List.length).take (0 + 1))))
          rw [lk_set, if_pos rfl, htk]
          simp [natRows]
      · have hl3 : ((logs.map List.length).take i).length = i := by rw [List.length_take, List.length_map]; omega
        have hsh : shown (natRows ((logs.map List.length).take i)) 0 i = natRows ((logs.map List.length).take i) := shown_all (by simp; omega)
        have hb : (i + 1) * 9 ≤ 68719476736 := by omega
        have hmi : min i logs.length = i := by omega
        have hne : ∀ c, ¬ kn = N + c := fun c => by omega
        simp [hrl, c1, hcr, hwl, c3, mostB, hl3, hsh, hb, lk_set, hlk, hne, hmi, Nat.add_assoc]
        refine hnext (i + 1, .rs kn (g + 1) 0 (i + 1) 1, up (up hp (N + 10) (0, AO.arr 1 [[.i .i64 ((logAt logs i).length : Nat)]])) kn (g + 1, AO.arr 1 (natRows ((logs.map List.length).take i) ++ [[.i .i64 ((logAt logs i).length : Nat)]])), N + 16) (by simp only; omega) ⟨by simp only; omega, by simp only; omega, fun j x h => ?_, .inr ⟨kn, g + 1, rfl, ?_, h1, by simp only; omega⟩⟩
        · simp only [lk_set] at h
          split at h
          · simp only; omega
          · split at h
            · simp only; omega
            · have := hkeys j x h; simp only; omega
        · simp only [lk_set, if_true]
          rw [htk]
          simp [natRows]
    · have hil : i = logs.length := by omega
      subst hil
      obtain ⟨kn, g, rfl, hlk, h1, h2⟩ := hsv.resolve_left fun h => by omega
      have e2 : (logs.map List.length).take logs.length = logs.map List.length := List.take_of_length_le (by simp)
      rw [e2] at hlk
      clear hnext hsv
      simp [hrl]
      refine loop_wp (ι := List Nat × Bool × Nat × Nat × Hp × List (Nat × AV)) (fun i => { env := [(0, .vs z 1 rows), (5, .rs kn i.2.2.1 0 logs.length 1), (7, .b i.2.1)] ++ i.2.2.2.2.2, loc := [], hp := i.2.2.2.2.1, nx := i.2.2.2.1 }) (fun i => if i.2.1 then i.1.sum + 1 else 0)
        (fun i => (i.2.2.2.2.2 = [] ∨ i.2.2.2.2.2 = [(8, .i .i64 (logs.length : Nat)), (33, .b false)]) ∧ kn < i.2.2.2.1 ∧ nx ≤ i.2.2.2.1 ∧ (∀ j x, lk i.2.2.2.2.1 j = some x → nx ≤ j ∧ j < i.2.2.2.1) ∧ lk i.2.2.2.2.1 kn = some (i.2.2.1, .arr 1 (natRows i.1)) ∧ i.1.length = logs.length ∧ i.1.sum ≤ 2 ^ 22 ∧ (∀ p, nAt i.1 p ≤ (logAt logs p).length) ∧ cutF logs i.1 = cutAll logs ∧ (i.2.1 = false → cutTo logs i.1 logs.length = i.1)) (logs.map List.length, true, g, _, hp, []) rfl ⟨.inl rfl, by simp only; omega, by simp only; omega, fun j x h => by have := hkeys j x h; simp only; omega, hlk, by simp, hsum, ?_, rfl, fun h => by cases h⟩ (by simp only [if_true]; unfold big at hK; omega) ?_
      · intro p
        show nAt (logs.map List.length) p ≤ _
        unfold nAt logAt
        rw [List.getElem?_map]
        cases logs[p]? <;> simp
      rintro Next ⟨n1, ag, g1, N1, H1, e1⟩ ⟨he1, hN1, hx1, hk1, hlk1, hn1, hs1, hle1, hcf, hag⟩ hnext
      simp only at he1 hN1 hx1 hk1 hlk1 hn1 hs1 hle1 hcf hag hnext
      cases ag with
      | false =>
        have hstop := cutF_stop (hag rfl)
        rw [hstop] at hcf
        have hfin : ∀ N', nx ≤ N' → N1 ≤ N' → Q (.tup [.rs kn g1 0 logs.length 1, .i .i64 0]) H1 N' := fun N' q1 q2 => by
          refine hQ _ _ _ ⟨q1, fun j x h => by have := hk1 j x h; omega, ?_⟩
          rw [if_pos h0]
          exact ⟨kn, g1, rfl, by rw [hlk1, hcf], by omega, by omega⟩
        rcases he1 with rfl | rfl
        · simp
          exact hfin _ (by omega) (by omega)
        · simp
          exact hfin _ (by omega) (by omega)
      | true =>
        apply two he1
        · rintro rfl h
          simp
          exact h
        · rintro rfl h
          simp
          exact h
        refine loop_wp (ι := Nat × List Nat × Bool × Nat × Nat × Hp) (fun i => { env := [(0, .vs z 1 rows), (5, .rs kn i.2.2.2.1 0 logs.length 1), (7, .b i.2.2.1), (8, .i .i64 (i.1 : Nat))], loc := [], hp := i.2.2.2.2.2, nx := i.2.2.2.2.1 }) (fun i => logs.length - i.1)
          (fun i => i.1 ≤ logs.length ∧ kn < i.2.2.2.2.1 ∧ nx ≤ i.2.2.2.2.1 ∧ (∀ j x, lk i.2.2.2.2.2 j = some x → nx ≤ j ∧ j < i.2.2.2.2.1) ∧ lk i.2.2.2.2.2 kn = some (i.2.2.2.1, .arr 1 (natRows i.2.1)) ∧ i.2.1 = cutTo logs n1 i.1 ∧ (i.2.2.1 = false → i.2.1 = n1) ∧ (i.2.2.1 = true → i.2.1.sum < n1.sum)) (0, n1, false, g1, _, H1) rfl ⟨Nat.zero_le _, by simp only; omega, by simp only; omega, fun j x h => by have := hk1 j x h; simp only; omega, hlk1, rfl, fun _ => rfl, fun h => by cases h⟩ (by simp; unfold big at hK; omega) ?_
        rintro Next2 ⟨i, n2, ag, g2, N2, H2⟩ ⟨hi, hN2, hx2, hk2, hlk2, hn2, hf2, ht2⟩ hnext2
        simp only at hi hN2 hx2 hk2 hlk2 hn2 hf2 ht2 hnext2
        have hl2 : n2.length = logs.length := by rw [hn2, cutTo_len, hn1]
        have hle2 : ∀ p, nAt n2 p ≤ (logAt logs p).length := fun p => by rw [hn2]; exact Nat.le_trans (cutTo_le _ _ _ _) (hle1 p)
        by_cases hlt : i < logs.length
        · obtain ⟨zw, wrows, hcr, hw, hlq, hwl, hwz⟩ := log_at hv hlt
          have hlb := hB.log _ (List.mem_of_getElem? hlq)
          have hll := hlb.len
          have c1 : (i : Int) < logs.length := by omega
          have c3 : IntKind.i64.wrap ((i : Int) + 1) = ((i + 1 : Nat) : Int) := by rw [wrap_i64 (by omega) (by omega)]; omega
          have hni : n2[i]? = some (nAt n2 i) := by unfold nAt; rw [List.getElem?_eq_getElem (by omega)]; rfl
          have hlei := hle2 i
          simp [hrl, c1]
          refine loop_wp (ι := Nat × List Nat × Bool × Nat × Nat × Hp) (fun k => { env := [(0, .vs z 1 rows), (5, .rs kn k.2.2.2.1 0 logs.length 1), (7, .b k.2.2.1), (8, .i .i64 (i : Nat)), (9, .i .i64 (k.1 : Nat))], loc := [], hp := k.2.2.2.2.2, nx := k.2.2.2.2.1 }) (fun k => (logAt logs i).length + 1 - k.1)
            (fun k => k.1 ≤ (logAt logs i).length ∧ kn < k.2.2.2.2.1 ∧ nx ≤ k.2.2.2.2.1 ∧ (∀ j x, lk k.2.2.2.2.2 j = some x → nx ≤ j ∧ j < k.2.2.2.2.1) ∧ lk k.2.2.2.2.2 kn = some (k.2.2.2.1, .arr 1 (natRows k.2.1)) ∧
              ((k.2.1 = n2 ∧ k.2.2.1 = ag ∧ k.1 ≤ nAt n2 i ∧ ∀ (q : Nat) (r : Rec), q < k.1 → (logAt logs i)[q]? = some r → cntR logs n2 r = true) ∨ ∃ c, failI logs n2 i = some c ∧ k.2.1 = n2.set i c ∧ k.2.2.1 = true ∧ c < k.1)) (0, n2, ag, g2, _, H2) rfl ⟨Nat.zero_le _, by simp only; omega, by simp only; omega, fun j x h => by have := hk2 j x h; simp only; omega, hlk2, .inl ⟨rfl, rfl, Nat.zero_le _, fun q r h => by simp at h⟩⟩ (by simp; unfold big at hK; omega) ?_
          rintro Next3 ⟨k, n3, ag3, g3, N3, H3⟩ ⟨hk, hN3, hx3, hk3, hlk3, hor⟩ hnext3
          simp only at hk hN3 hx3 hk3 hlk3 hor hnext3
          rcases hor with ⟨rfl, rfl, hkn, hq⟩ | ⟨c, hfl, rfl, rfl, hck⟩
          · have hnr := nat_row hni
            have hi2 : i < n3.length := by omega
            by_cases hkl : k < nAt n3 i
            · obtain ⟨r, hr⟩ : ∃ r, (logAt logs i)[k]? = some r := ⟨_, List.getElem?_eq_getElem (by omega)⟩
              have hrm := List.mem_of_getElem? hr
              obtain ⟨zp, za, hrc, _, _⟩ := recs_at hw hr
              have hrb := hlb.each r hrm
              have hCB : CutB logs n3 r := ⟨hl2, hle2, hF.last i _ r hlq hrm⟩
              have hev := p_counts (K := K) (m := m) hK (by omega) hv hB false zp za hCB hrb.parts
              unfold recCells at hev
              have k1 : (k : Int) < nAt n3 i := by omega
              have q3 : IntKind.i64.wrap ((k : Int) + 1) = ((k + 1 : Nat) : Int) := by rw [wrap_i64 (by omega) (by omega)]; omega
              have hfz := fun get : Ref → Option AO => frz_nat (get := get) (d := 10) n3
              have htk : (natRows n3).take logs.length = natRows n3 := List.take_of_length_le (by simp; omega)
              cases g : cntR logs n3 r with
              | true =>
                rw [g] at hev
                simp [hlk3, hi2, hlt, hl2, hnr, k1, hkl, hcr, hrc, recCells, htk, hfz, hev, q3]
                exact hnext3 (k + 1, n3, ag3, g3, _, H3) (by simp only; omega) ⟨by simp only; omega, by simp only; omega, by simp only; omega, fun j x h => by have := hk3 j x h; simp only; omega, hlk3, .inl ⟨rfl, rfl, by simp only; omega, fun q x hqk hx => by
                  simp only at hqk
                  by_cases e : q = k
                  · subst e; rw [hr] at hx; cases hx; exact g
                  · exact hq q x (by omega) hx⟩⟩
              | false =>
                rw [g] at hev
                have hset : (natRows n3).set i [.i .i64 (k : Nat)] = natRows (n3.set i k) := by simp [natRows, List.map_set]
                have hfl : failI logs n3 i = some k := by
                  unfold failI
                  rw [List.findIdx?_eq_some_iff_getElem]
                  have hkt : k < ((logAt logs i).take (nAt n3 i)).length := by rw [List.length_take]; omega
                  refine ⟨hkt, ?_, fun q hqk => ?_⟩
                  · rw [List.getElem_take]
                    rw [List.getElem?_eq_getElem (by omega)] at hr
                    rw [Option.some.inj hr, g]; rfl
                  · rw [List.getElem_take]
                    have := hq q _ hqk (List.getElem?_eq_getElem (by omega))
                    simp [this]
                simp [hlk3, hi2, hlt, hl2, hnr, k1, hkl, hcr, hrc, recCells, htk, hfz, hev, q3, hset]
                refine hnext3 (k + 1, n3.set i k, true, g3, _, up H3 kn (g3, AO.arr 1 (natRows (n3.set i k)))) (by simp only; omega) ⟨by simp only; omega, by simp only; omega, by simp only; omega, fun j x h => ?_, ?_, .inr ⟨k, hfl, rfl, rfl, by simp only; omega⟩⟩
                · simp only [lk_set] at h
                  split at h
                  · rename_i e; subst e; have := hk3 _ _ hlk3; simp only; omega
                  · have := hk3 j x h; simp only; omega
                · simp only [lk_set, if_true]
            · have hke : k = nAt n3 i := by omega
              have hfl : failI logs n3 i = none := by
                unfold failI
                rw [List.findIdx?_eq_none_iff]
                intro x hx
                obtain ⟨q, hq1⟩ := List.mem_iff_getElem?.1 hx
                have hq2 := (List.getElem?_eq_some_iff.1 hq1).1
                rw [List.length_take] at hq2
                rw [List.getElem?_take_of_lt (by omega)] at hq1
                have := hq q x (by omega) hq1
                simp [this]
              have hcut : cutI logs n3 i = n3 := by unfold cutI; rw [hfl]
              have hkl' : ¬ (k : Int) < nAt n3 i := by omega
              simp [hlk3, hi2, hlt, hl2, hnr, hkl', hkl, c3]
              exact hnext2 (i + 1, n3, ag3, g3, _, H3) (by simp only; omega) ⟨by simp only; omega, by simp only; omega, by simp only; omega, fun j x h => by have := hk3 j x h; simp only; omega, hlk3, by simp only; rw [cutTo, ← hn2, hcut], hf2, ht2⟩
          · have hi2 : i < (n2.set i c).length := by rw [List.length_set]; omega
            have hi3 : i < n2.length := by omega
            have hnc : (n2.set i c)[i]? = some c := by rw [List.getElem?_set_self hi3]
            have hnr := nat_row hnc
            have hkl : ¬ k < c := by omega
            have hkl' : ¬ (k : Int) < c := by omega
            have hcut : cutI logs n2 i = n2.set i c := by unfold cutI; rw [hfl]
            have h7 := sum_set (failI_lt hfl).1
            simp [hlk3, hi2, hi3, hlt, hl2, hnr, hkl', hkl, c3]
            exact hnext2 (i + 1, n2.set i c, true, g3, _, H3) (by simp only; omega) ⟨by simp only; omega, by simp only; omega, by simp only; omega, fun j x h => by have := hk3 j x h; simp only; omega, hlk3, by simp only; rw [cutTo, ← hn2, hcut], fun h => (by cases h), fun _ => by
              simp only
              cases ag with
              | false => rw [hf2 rfl] at h7 ⊢; exact h7
              | true => have := ht2 rfl; omega⟩
        · have hil2 : i = logs.length := by omega
          subst hil2
          simp [hrl]
          have hcf2 : cutF logs n2 = cutAll logs := by rw [hn2, cutF_step, hcf]
          have hs2 : n2.sum ≤ 2 ^ 22 := by
            cases ag with
            | false => rw [hf2 rfl]; exact hs1
            | true => have := ht2 rfl; omega
          refine hnext (n2, ag, g2, _, H2, _) ?_ ⟨.inr rfl, by simp only; omega, by simp only; omega, fun j x h => by have := hk2 j x h; simp only; omega, hlk2, hl2, hs2, hle2, hcf2, fun h => ?_⟩
          · cases ag with
            | false => simp
            | true => have := ht2 rfl; simp only [if_true]; omega
          · simp only at h
            rw [hf2 h] at hn2 ⊢
            exact hn2.symm
  · have h0' : (chk logs != 0) = true := by simp [h0]
    simp [hc, h0']
    exact hQ _ _ _ ⟨by omega, fun j x h => (by cases h), by rw [if_neg h0]⟩

end Ab
end Go.Proofs.YtidoflgcblglbaaDoor
