/-
  DERIVED. recovery.Order: all that count, sorted by their numbers.
  Conditions: enough rounds, enough depth; bounded lengths.
-/
import Derived.Test.YtidoflgcblglbaaDoorW28
import Derived.Test.YtidoflgcblglbaaDoorWG
import Derived.Test.YtidoflgcblglbaaDoorW22
set_option linter.all false
set_option maxHeartbeats 4000000
namespace Go.Proofs.YtidoflgcblglbaaDoor
namespace Ab
open Go.Lib
set_option maxRecDepth 100000
set_option maxHeartbeats 4000000
set_option linter.all false

/-- What Order answers. -/
def OrdG (logs : Logs) (nx : Nat) (r : AV) (H : Hp) (N : Nat) : Prop := nx ≤ N ∧ NovH H ∧ nov r = true ∧ (∀ j x, lk H j = some x → nx ≤ j ∧ j < N) ∧ (if chk logs = 0 then ∃ (w : AV) (A : List Rec), r = .tup [w, .i .i64 0] ∧ RowsG false H nx N w (A.map Rec.plain) ∧ A.Perm (firsts logs (cutAll logs) logs.length) ∧ (A.map Rec.id).Pairwise (· < ·) else r = .tup [.vs true 0 [], .i .i64 (chk logs)])
theorem firsts_snoc {logs : Logs} {i k : Nat} {r : Rec} (hr : (logAt logs i)[k]? = some r) : ((logAt logs i).take (k + 1)).filter (fun r => r.parts.head? == some (i : Int)) = ((logAt logs i).take k).filter (fun r => r.parts.head? == some (i : Int)) ++ if r.parts.head? = some (i : Int) then [r] else [] := by
  rw [List.take_add_one, hr, List.filter_append]
  congr 1
  by_cases h : r.parts.head? = some (i : Int)
  · rw [if_pos h]
    simp [h]
  · rw [if_neg h]
    simp [h]
section
attribute [local simp] wp_regW opsW_nil opsW_cons opsK_eq regK_no regK_draw oW_n oW_h oW_r oW_pn convA appendA appRow newsA rowsSz rowsOf isIntD makeSliceA elemOf rowsBuilt eqA eq1 lenA

theorem c_pOrder {K m nx : Nat} (hK : big K) (hm : 13 ≤ m) {v : AV} {logs : Logs} (hv : LogsV v logs) (hB : LogsB logs) (hsum : (logs.map List.length).sum ≤ 2 ^ 22) : Sp K m 12 [v] [] nx (OrdG logs nx) := by
  refine sp_cps fun Q hQ => ?_
  obtain ⟨m, rfl⟩ : ∃ k, m = k + 1 := ⟨m - 1, by omega⟩
  have hcu := fun N => c_cuts (K := K) (m := m) (nx := N) hK (by omega) (fun m hm => checkOk hK hm) hv hB hsum
  have hv0 := hv
  obtain ⟨z, rows, rfl, hrl, _, _⟩ := hv0
  refine sp_of rfl (run_wp Tryd.func12 rfl (by simp [Tryd.f12]) ?_)
  simp [-fCall]
  refine f_sp (args' := [.vs z 1 rows]) (by simp) (hcu _) ?_
  rintro r H0 N0 ⟨hN0, h0⟩
  by_cases hc : chk logs = 0
  · rw [if_pos hc] at h0
    obtain ⟨ka, ga, rfl, rfl, hka1, hka2⟩ := h0
    refine ⟨by simp [nov, nov1], fun e he => (by simp at he; rw [he]; simp [novO, nov_nat]), ?_⟩
    obtain ⟨hl1, hF, hCan⟩ := chk_fits hc
    have hll : logs.length ≤ 64 := by
      unfold chk at hc
      split at hc
      · cases hc
      · omega
    have hcl : (cutAll logs).length = logs.length := cutAll_len logs
    simp [-fCall, foldl_layW, hrl]
    have hlay : layH [] [(ka, (ga, AO.arr 1 (natRows (cutAll logs))))] = [(ka, (ga, AO.arr 1 (natRows (cutAll logs))))] := rfl
    rw [hlay]
    refine loop_wp (ι := Nat × AV × Hp × Nat) (fun i => { env := [(4, .rs ka ga 0 logs.length 1), (6, i.2.1), (19, .vs z 1 rows), (20, .i .i64 (logs.length : Nat)), (21, .i .i64 (i.1 : Nat))], loc := [], hp := i.2.2.1, nx := i.2.2.2 }) (fun i => logs.length - i.1)
      (fun i => i.1 ≤ logs.length ∧ ka < i.2.2.2 ∧ nx ≤ i.2.2.2 ∧ NovH i.2.2.1 ∧ (∀ j x, lk i.2.2.1 j = some x → nx ≤ j ∧ j < i.2.2.2) ∧ lk i.2.2.1 ka = some (ga, .arr 1 (natRows (cutAll logs))) ∧ RowsG false i.2.2.1 nx i.2.2.2 i.2.1 ((firsts logs (cutAll logs) i.1).map Rec.plain) ∧ (firsts logs (cutAll logs) i.1).length ≤ i.1 * 2 ^ 20) (0, .vs true 0 [], [(ka, (ga, .arr 1 (natRows (cutAll logs))))], _) rfl ⟨Nat.zero_le _, by simp only; omega, by simp only; omega, fun e he => (by simp at he; rw [he]; simp [novO, nov_nat]), fun j x h => ?_, by simp [lk], .inl ⟨rfl, rfl⟩, by simp [firsts]⟩ (by simp; unfold big at hK; omega) ?_
    · simp only [lk] at h
      split at h
      · simp only; omega
      · cases h
    rintro Next ⟨i, sv, H, N⟩ ⟨hi, hkN, hxN, hNov, hkeys, hlk, hG, hfl⟩ hnext
    simp only at hi hkN hxN hNov hkeys hlk hG hfl hnext
    by_cases hlt : i < logs.length
    · obtain ⟨zw, wrows, hcr, hw, hlq, hwl, hwz⟩ := log_at hv hlt
      have hlb := hB.log _ (List.mem_of_getElem? hlq)
      have hlll := hlb.len
      have c1 : (i : Int) < logs.length := by omega
      have c3 : IntKind.i64.wrap ((i : Int) + 1) = ((i + 1 : Nat) : Int) := by rw [wrap_i64 (by omega) (by omega)]; omega
      have i2 : i < (cutAll logs).length := by omega
      have hr2 := nat_row (nAt_get i2)
      have hle := cutAll_le logs i
      have hmin : min (nAt (cutAll logs) i) (logAt logs i).length = nAt (cutAll logs) i := by omega
      -- the loop over what counts of one log
      have inner : ∀ (zz : Bool) (N' : Nat), N ≤ N' → ∀ P : Ex × St → Prop,
          (∀ (sv' : AV) (H' : Hp) (N'' : Nat), ka < N'' → nx ≤ N'' → NovH H' → (∀ j x, lk H' j = some x → nx ≤ j ∧ j < N'') → lk H' ka = some (ga, .arr 1 (natRows (cutAll logs))) → RowsG false H' nx N'' sv' ((firsts logs (cutAll logs) (i + 1)).map Rec.plain) → (firsts logs (cutAll logs) (i + 1)).length ≤ (i + 1) * 2 ^ 20 →
            P (.exit 2, { env := [(4, .rs ka ga 0 logs.length 1), (6, sv'), (7, .i .i64 (i : Nat)), (19, .vs z 1 rows), (20, .i .i64 (logs.length : Nat)), (21, .i .i64 (i : Nat)), (31, .vs zz 6 (wrows.take (nAt (cutAll logs) i))), (32, .i .i64 (nAt (cutAll logs) i : Nat)), (33, .i .i64 (nAt (cutAll logs) i : Nat)), (34, .b false)], loc := [], hp := H', nx := N'' })) →
          wp (loopK cfg (callA cfg K m) K 12 (loopOf Tryd.f12 1) { env := [(4, .rs ka ga 0 logs.length 1), (6, sv), (7, .i .i64 (i : Nat)), (19, .vs z 1 rows), (20, .i .i64 (logs.length : Nat)), (21, .i .i64 (i : Nat)), (31, .vs zz 6 (wrows.take (nAt (cutAll logs) i))), (32, .i .i64 (nAt (cutAll logs) i : Nat)), (33, .i .i64 0)], loc := [], hp := H, nx := N' }) P := by
        intro zz N' hN' P hP
        refine loop_wp (ι := Nat × AV × Hp × Nat) (fun k => { env := [(4, .rs ka ga 0 logs.length 1), (6, k.2.1), (7, .i .i64 (i : Nat)), (19, .vs z 1 rows), (20, .i .i64 (logs.length : Nat)), (21, .i .i64 (i : Nat)), (31, .vs zz 6 (wrows.take (nAt (cutAll logs) i))), (32, .i .i64 (nAt (cutAll logs) i : Nat)), (33, .i .i64 (k.1 : Nat))], loc := [], hp := k.2.2.1, nx := k.2.2.2 }) (fun k => nAt (cutAll logs) i - k.1)
          (fun k => k.1 ≤ nAt (cutAll logs) i ∧ ka < k.2.2.2 ∧ nx ≤ k.2.2.2 ∧ NovH k.2.2.1 ∧ (∀ j x, lk k.2.2.1 j = some x → nx ≤ j ∧ j < k.2.2.2) ∧ lk k.2.2.1 ka = some (ga, .arr 1 (natRows (cutAll logs))) ∧ RowsG false k.2.2.1 nx k.2.2.2 k.2.1 ((firsts logs (cutAll logs) i ++ ((logAt logs i).take k.1).filter fun r => r.parts.head? == some (i : Int)).map Rec.plain) ∧ (firsts logs (cutAll logs) i ++ ((logAt logs i).take k.1).filter fun r => r.parts.head? == some (i : Int)).length ≤ i * 2 ^ 20 + k.1) (0, sv, H, N') rfl ⟨Nat.zero_le _, by simp only; omega, by simp only; omega, hNov, fun j x h => by have := hkeys j x h; simp only; omega, hlk, by simpa using hG.keep (fun _ _ _ => rfl) hN', by simpa using hfl⟩ (by simp; unfold big at hK; omega) ?_
        rintro Next3 ⟨k, sv3, H3, N3⟩ ⟨hk, hk3, hx3, hNov3, hkeys3, hlk3, hG3, hl3⟩ hnext3
        simp only at hk hk3 hx3 hNov3 hkeys3 hlk3 hG3 hl3 hnext3
        by_cases hkl : k < nAt (cutAll logs) i
        · obtain ⟨r, hr⟩ : ∃ r, (logAt logs i)[k]? = some r := ⟨_, List.getElem?_eq_getElem (by omega)⟩
          have hrm := List.mem_of_getElem? hr
          have hrc0 := hCan i k r hr
          have hrb := hlb.each r hrm
          obtain ⟨zp, za, hrc, hzp, hza⟩ := recs_at hw hr
          obtain ⟨p, hp⟩ : ∃ p, r.parts[0]? = some p := ⟨_, List.getElem?_eq_getElem (by have := hrc0.2.1.1; omega)⟩
          have hzf : zp = false := by
            cases zp with
            | false => rfl
            | true => rw [hzp rfl] at hp; cases hp
          subst hzf
          have hpr := int_row hp
          have hpl : 0 < r.parts.length := by have := hrc0.2.1.1; omega
          have hhd : r.parts.head? = some p := by rw [List.head?_eq_getElem?]; exact hp
          have k1 : (k : Int) < nAt (cutAll logs) i := by omega
          have q3 : IntKind.i64.wrap ((k : Int) + 1) = ((k + 1 : Nat) : Int) := by rw [wrap_i64 (by omega) (by omega)]; omega
          have hsn := firsts_snoc (logs := logs) hr
          rw [hhd] at hsn
          have hkw : (wrows.take (nAt (cutAll logs) i))[k]? = some (recCells false za r) := by rw [List.getElem?_take_of_lt hkl]; exact hrc
          by_cases g : p = (i : Int)
          · have g' : (p == (i : Int)) = true := by simp [g]
            rw [if_pos (by rw [g])] at hsn
            have hM : (firsts logs (cutAll logs) i ++ ((logAt logs i).take (k + 1)).filter fun r => r.parts.head? == some (i : Int)).map Rec.plain = (firsts logs (cutAll logs) i ++ ((logAt logs i).take k).filter fun r => r.parts.head? == some (i : Int)).map Rec.plain ++ [r.plain] := by
              rw [hsn, ← List.append_assoc, List.map_append, List.map_singleton]
            have hMl : (firsts logs (cutAll logs) i ++ ((logAt logs i).take (k + 1)).filter fun r => r.parts.head? == some (i : Int)).length = (firsts logs (cutAll logs) i ++ ((logAt logs i).take k).filter fun r => r.parts.head? == some (i : Int)).length + 1 := by
              rw [hsn, ← List.append_assoc, List.length_append, List.length_singleton]
            have hn3 : ∀ (sv' : AV) (H' : Hp) (N' : Nat), ka < N' → nx ≤ N' → NovH H' → (∀ j x, lk H' j = some x → nx ≤ j ∧ j < N') → lk H' ka = some (ga, .arr 1 (natRows (cutAll logs))) → RowsG false H' nx N' sv' ((firsts logs (cutAll logs) i ++ ((logAt logs i).take k).filter fun r => r.parts.head? == some (i : Int)).map Rec.plain ++ [r.plain]) → Next3 { env := [(4, .rs ka ga 0 logs.length 1), (6, sv'), (7, .i .i64 (i : Nat)), (19, .vs z 1 rows), (20, .i .i64 (logs.length : Nat)), (21, .i .i64 (i : Nat)), (31, .vs zz 6 (wrows.take (nAt (cutAll logs) i))), (32, .i .i64 (nAt (cutAll logs) i : Nat)), (33, .i .i64 ((k + 1 : Nat) : Int))], loc := [], hp := H', nx := N' } :=
              fun sv' H' N' w1 w2 w3 w4 w5 w6 => hnext3 (k + 1, sv', H', N') (by simp only; omega) ⟨by simp only; omega, w1, w2, w3, w4, w5, by simp only; rw [hM]; exact w6, by simp only; rw [hMl]; omega⟩
            have hMb : ((firsts logs (cutAll logs) i ++ ((logAt logs i).take k).filter fun r => r.parts.head? == some (i : Int)).map Rec.plain).length ≤ 2 ^ 27 := by rw [List.length_map]; omega
            clear hnext3 hM hMl hsn hl3 hP
            generalize (firsts logs (cutAll logs) i ++ ((logAt logs i).take k).filter fun r => r.parts.head? == some (i : Int)).map Rec.plain = M at hG3 hn3 hMb
            rcases hG3 with ⟨rfl, rfl⟩ | ⟨kn, g3, orows, rfl, h2, h3, h4, h5, h6, h7⟩
            · simp [-fCall, loopOf, loopsIn, Tryd.f12, k1, hkl, hkw, get_of hkw, hrc, get_of hrc, recCells, hpl, hpr, g']
              refine f_sp (args' := [.agg (recCells false za r)]) (by simp [recCells]) (c_rown (K := K) (n := m) hK (by omega) za r hza hrb hrc0) ?_
              rintro _ H4 N4 ⟨a, ga4, b, gb4, rfl, hH4, ha1, ha2, ha3⟩
              have hk4 : ∀ j x, lk H4 j = some x → N3 + 17 ≤ j ∧ j < N4 := fun j x h => by
                rw [hH4] at h
                simp only [lk] at h
                split at h
                · omega
                · split at h
                  · omega
                  · cases h
              have e1 : lk (layH H3 H4) a = some (ga4, .arr 1 (ints r.parts)) := lay_new (by rw [hH4]; simp [lk])
              have e2 : lk (layH H3 H4) b = some (gb4, .arr 3 (valRows (r.args.map Val.plain))) := lay_new (by
                have hab : ¬ a = b := by omega
                rw [hH4]
                simp [lk, hab])
              have e3 : lk (layH H3 H4) ka = some (ga, .arr 1 (natRows (cutAll logs))) := by rw [lay_low hk4 (by omega)]; exact hlk3
              have e4 := lay_keys hkeys3 (fun j x h => by have := hk4 j x h; exact ⟨by omega, this.2⟩ : ∀ j x, lk H4 j = some x → N3 ≤ j ∧ j < N4) (by omega) (by omega)
              refine ⟨by simp [nov, nov1, recHeap], fun e he => ?_, ?_⟩
              · rw [hH4] at he
                simp at he
                rcases he with rfl | rfl
                · exact nov_ints _
                · exact nov_vals _
              have e5 : NovH (layH H3 H4) := by
                rw [hH4]
                exact nov_up (nov_ints _) (nov_up (nov_vals _) hNov3)
              simp [foldl_layW, lk_set, mostB, recHeap, q3]
              refine hn3 _ _ _ (by omega) (by omega) (nov_up (nov_rec a ga4 b gb4 r.plain) (nov_up (nov_rec a ga4 b gb4 r.plain) e5)) (fun j x h => ?_) ?_ (.inr ⟨N3 + 1 + 4 + 6 + 4, 0, [recHeap a ga4 b gb4 r.plain], rfl, by rw [lk_set, if_pos rfl]; rfl, rfl, fun j c x hc hx => ?_, by simp [ApartR], by omega, by omega⟩)
              · simp only [lk_set] at h
                split at h
                · omega
                · split at h
                  · omega
                  · have := e4 j x h; omega
              · rw [lk_set, if_neg (by omega), lk_set, if_neg (by omega)]; exact e3
              · cases j with
                | succ j => simp at hc
                | zero =>
                  cases hc; cases hx
                  refine rowG_heap ?_ ?_ (by omega) (by omega) (by omega) (by omega)
                  · rw [lk_set, if_neg (by omega), lk_set, if_neg (by omega)]; exact e1
                  · rw [lk_set, if_neg (by omega), lk_set, if_neg (by omega)]; exact e2
            · have hsh : shown orows 0 M.length = orows := shown_all h3.symm
              have hbb : (M.length + 1) * 89 ≤ 68719476736 := by omega
              simp [-fCall, loopOf, loopsIn, Tryd.f12, k1, hkl, hkw, get_of hkw, hrc, get_of hrc, recCells, hpl, hpr, g']
              refine f_sp (args' := [.agg (recCells false za r)]) (by simp [recCells]) (c_rown (K := K) (n := m) hK (by omega) za r hza hrb hrc0) ?_
              rintro _ H4 N4 ⟨a, ga4, b, gb4, rfl, hH4, ha1, ha2, ha3⟩
              have hk4 : ∀ j x, lk H4 j = some x → N3 + 17 ≤ j ∧ j < N4 := fun j x h => by
                rw [hH4] at h
                simp only [lk] at h
                split at h
                · omega
                · split at h
                  · omega
                  · cases h
              have e1 : lk (layH H3 H4) a = some (ga4, .arr 1 (ints r.parts)) := lay_new (by rw [hH4]; simp [lk])
              have e2 : lk (layH H3 H4) b = some (gb4, .arr 3 (valRows (r.args.map Val.plain))) := lay_new (by
                have hab : ¬ a = b := by omega
                rw [hH4]
                simp [lk, hab])
              have e3 : lk (layH H3 H4) ka = some (ga, .arr 1 (natRows (cutAll logs))) := by rw [lay_low hk4 (by omega)]; exact hlk3
              have e4 := lay_keys hkeys3 (fun j x h => by have := hk4 j x h; exact ⟨by omega, this.2⟩ : ∀ j x, lk H4 j = some x → N3 ≤ j ∧ j < N4) (by omega) (by omega)
              refine ⟨by simp [nov, nov1, recHeap], fun e he => ?_, ?_⟩
              · rw [hH4] at he
                simp at he
                rcases he with rfl | rfl
                · exact nov_ints _
                · exact nov_vals _
              have e5 : NovH (layH H3 H4) := by
                rw [hH4]
                exact nov_up (nov_ints _) (nov_up (nov_vals _) hNov3)
              have e6 : lk (layH H3 H4) kn = some (g3, .arr 6 orows) := by rw [lay_low hk4 (by omega)]; exact h2
              have hnk : ∀ c, ¬ kn = N3 + c := fun c => by omega
              simp [foldl_layW, lk_set, mostB, recHeap, q3, e6, hsh, hbb, h3, hnk, Nat.add_assoc]
              have hka3 := lk_ne h2 hlk3 (by omega)
              refine hn3 (.rs kn (g3 + 1) 0 (M.length + 1) 6) _ _ (by omega) (by omega) (nov_up (nov_snoc (nov_lk hNov3 h2) a ga4 b gb4 r.plain) (nov_up (nov_rec a ga4 b gb4 r.plain) e5)) (fun j x h => ?_) ?_ (.inr ⟨kn, g3 + 1, orows ++ [recHeap a ga4 b gb4 r.plain], by simp, by rw [lk_set, if_pos rfl]; rfl, by simp [h3], fun j c x hc hx => ?_, apart_snoc h5 fun y hy b' hb' => ?_, by omega, by omega⟩)
              · simp only [lk_set] at h
                split at h
                · omega
                · split at h
                  · omega
                  · have := e4 j x h; omega
              · rw [lk_set, if_neg (fun e => hka3 e.symm), lk_set, if_neg (by omega)]; exact e3
              · by_cases hj : j < M.length
                · rw [List.getElem?_append_left (by omega)] at hc
                  rw [List.getElem?_append_left hj] at hx
                  refine (h4 j c x hc hx).keep (fun w w1 w2 ⟨g', sz, rows', w3, w4⟩ => ?_) (by omega)
                  rw [lk_set, if_neg (lk_ne w4 h2 w3), lk_set, if_neg (by omega), lay_low hk4 (by omega)]
                · have hj2 := (List.getElem?_eq_some_iff.1 hc).1
                  rw [List.length_append, List.length_singleton] at hj2
                  have hji : j = M.length := by omega
                  subst hji
                  rw [List.getElem?_append_right (by omega), h3, Nat.sub_self] at hc
                  rw [List.getElem?_append_right (by omega), Nat.sub_self] at hx
                  cases hc; cases hx
                  refine rowG_heap ?_ ?_ (by omega) (by omega) (by omega) (by omega)
                  · rw [lk_set, if_neg (by omega), lk_set, if_neg (by omega)]; exact e1
                  · rw [lk_set, if_neg (by omega), lk_set, if_neg (by omega)]; exact e2
              · obtain ⟨j, hj⟩ := List.mem_iff_getElem?.1 hy
                obtain ⟨x, hx⟩ : ∃ x, M[j]? = some x := ⟨_, List.getElem?_eq_getElem (by have := (List.getElem?_eq_some_iff.1 hj).1; omega)⟩
                have := (h4 j y x hj hx).arg_lt hb'
                rw [argO_heap]
                intro e
                injection e with e
                omega
          · have g' : (p == (i : Int)) = false := by simp [g]
            rw [if_neg (by simpa using g), List.append_nil] at hsn
            simp [-fCall, loopOf, loopsIn, Tryd.f12, k1, hkl, hkw, get_of hkw, hrc, get_of hrc, recCells, hpl, hpr, g', q3]
            exact hnext3 (k + 1, sv3, H3, _) (by simp only; omega) ⟨by simp only; omega, by simp only; omega, by simp only; omega, hNov3, fun j x h => by have := hkeys3 j x h; simp only; omega, hlk3, by simp only; rw [hsn]; exact hG3.keep (fun _ _ _ => rfl) (by omega), by simp only; rw [hsn]; omega⟩
        · have hke : k = nAt (cutAll logs) i := by omega
          subst hke
          simp [-fCall, loopOf, loopsIn, Tryd.f12]
          exact hP sv3 H3 _ (by omega) (by omega) hNov3 (fun j x h => by have := hkeys3 j x h; omega) hlk3 (by rw [firsts]; exact hG3.keep (fun _ _ _ => rfl) (by omega)) (by rw [firsts]; omega)
      have after : ∀ (sv' : AV) (H' : Hp) (N'' : Nat), ka < N'' → nx ≤ N'' → NovH H' → (∀ j x, lk H' j = some x → nx ≤ j ∧ j < N'') → lk H' ka = some (ga, .arr 1 (natRows (cutAll logs))) → RowsG false H' nx N'' sv' ((firsts logs (cutAll logs) (i + 1)).map Rec.plain) → (firsts logs (cutAll logs) (i + 1)).length ≤ (i + 1) * 2 ^ 20 → Next { env := [(4, .rs ka ga 0 logs.length 1), (6, sv'), (19, .vs z 1 rows), (20, .i .i64 (logs.length : Nat)), (21, .i .i64 ((i + 1 : Nat) : Int))], loc := [], hp := H', nx := N'' } :=
        fun sv' H' N'' q1 q2 q3 q4 q5 q6 q7 => hnext (i + 1, sv', H', N'') (by simp only; omega) ⟨by simp only; omega, q1, q2, q3, q4, q5, q6, q7⟩
      cases zw with
      | true =>
        obtain ⟨e1, rfl⟩ := hwz rfl
        have n0 : nAt (cutAll logs) i = 0 := by rw [e1] at hle; simpa using hle
        rw [n0] at hr2 inner
        simp only [List.take_nil] at inner
        simp [-fCall, c1, hcr, get_of hcr, hlk, i2, hlt, hcl, hr2, hrl]
        refine inner true _ (by omega) _ fun sv' H' N'' q1 q2 q4 q5 q6 q7 q8 => ?_
        simp [c3]
        exact after sv' H' _ (by omega) (by omega) q4 (fun j x h => by have := q5 j x h; omega) q6 (q7.keep (fun _ _ _ => rfl) (by omega)) q8
      | false =>
        simp [-fCall, c1, hcr, get_of hcr, hlk, i2, hlt, hcl, hr2, hrl, hwl, hle, hmin]
        refine inner false _ (by omega) _ fun sv' H' N'' q1 q2 q4 q5 q6 q7 q8 => ?_
        simp [c3]
        exact after sv' H' _ (by omega) (by omega) q4 (fun j x h => by have := q5 j x h; omega) q6 (q7.keep (fun _ _ _ => rfl) (by omega)) q8
    · have hil : i = logs.length := by omega
      subst hil
      clear hnext
      have hPt : ∀ (i k : Nat) (r : Rec), (logAt logs i)[k]? = some r → PartsOk r.parts := fun i k r h => (hCan i k r h).2.1
      have hnd := firsts_nodup hF (cutAll logs) logs.length
      rcases hG with ⟨h1, rfl⟩ | ⟨kn, g, rows', rfl, h2, h3, h4, h5, h6, h7⟩
      · have h10 : firsts logs (cutAll logs) logs.length = [] := List.map_eq_nil_iff.1 h1
        obtain ⟨m, rfl⟩ : ∃ k, m = k + 1 := ⟨m - 1, by omega⟩
        simp [-fCall]
        refine Sp.beside (h_sort0 (K := K) (n := m)) ?_
        rintro _ H2 N2 ⟨rfl, rfl, rfl⟩
        simp [layW]
        refine hQ _ _ _ ⟨by omega, hNov, by simp [nov, nov1], fun j x h => by have := hkeys j x h; omega, ?_⟩
        rw [if_pos hc]
        exact ⟨_, [], rfl, .inl ⟨rfl, rfl⟩, by rw [h10], by simp⟩
      · obtain ⟨m, rfl⟩ : ∃ k, m = k + 1 := ⟨m - 1, by omega⟩
        have hlen : rows'.length = (firsts logs (cutAll logs) logs.length).length := by rw [h3, List.length_map]
        have h4' : ∀ (j : Nat) (c : List AV) (r : Rec), rows'[j]? = some c → (firsts logs (cutAll logs) logs.length)[j]? = some r → RowG false H nx N c r.plain := fun j c r hc hr => h4 j c r.plain hc (by rw [List.getElem?_map, hr]; rfl)
        obtain ⟨rows2, A, p1, p2, p3, p4, p5, p6⟩ := sort_pairs (key := keyRow) (fun c r => RowG false H nx N c r.plain) hlen h4' (fun c r h => (key_rowG h : keyRow c = r.plain.id)) hnd
        have hkr : ∀ c ∈ rows', KeyRow c := fun c hcm => by
          obtain ⟨j, hj⟩ := List.mem_iff_getElem?.1 hcm
          obtain ⟨r, hr⟩ : ∃ r, (firsts logs (cutAll logs) logs.length)[j]? = some r := ⟨_, List.getElem?_eq_getElem (by have := (List.getElem?_eq_some_iff.1 hj).1; omega)⟩
          obtain ⟨p, q, rfl, _, _⟩ := h4' j c r hj hr
          obtain ⟨i1, k1, _, _, g3, _⟩ := firsts_mem.1 (List.mem_of_getElem? hr)
          have := (hB.log _ (List.mem_of_getElem? (logAt_some g3))).each r (List.mem_of_getElem? g3)
          exact ⟨rfl, r.id, _, rfl, this.id⟩
        have hnk : (rows'.map keyRow).Nodup := (p1.map keyRow).nodup_iff.1 (p4.imp fun h => by omega)
        have hso := h_sort (K := K) (n := m) (nx := N + 1 + 2) h2 hkr hnk (by omega) p1 p4
        rw [hlen] at hso
        have hnr : novO (.arr 6 rows2) = true := by
          have h9 := nov_lk hNov h2
          simp only [novO, List.all_eq_true] at h9 ⊢
          exact fun c hc => h9 c (p1.mem_iff.1 hc)
        simp [-fCall]
        refine hso.cW ?_
        rintro _ H2 N2 ⟨rfl, rfl, rfl⟩
        simp
        refine hQ _ _ _ ⟨by omega, nov_up hnr hNov, by simp [nov, nov1], fun j x h => ?_, ?_⟩
        · rw [lk_set] at h
          split at h
          · omega
          · have := hkeys j x h; omega
        · rw [if_pos hc]
          refine ⟨_, A, rfl, .inr ⟨kn, g, rows2, by rw [List.length_map, p2.length_eq], by rw [lk_set, if_pos rfl], by rw [p3, List.length_map], fun j c r hc hr => ?_, apart_perm p1.symm h5, h6, by omega⟩, p2, p5⟩
          rw [List.getElem?_map] at hr
          cases hA : A[j]? with
          | none => rw [hA] at hr; cases hr
          | some x =>
            rw [hA] at hr
            cases hr
            refine (p6 j c x hc hA).keep (fun w _ _ ⟨g', sz, rows', e3, e4⟩ => ?_) (by omega)
            rw [lk_set, if_neg (lk_ne e4 h2 e3)]
  · rw [if_neg hc] at h0
    obtain ⟨rfl, rfl⟩ := h0
    have hc' : (chk logs != 0) = true := by simp [hc]
    refine ⟨by simp [nov, nov1], fun e he => (by simp at he), ?_⟩
    simp [-fCall, foldl_layW, hc']
    exact hQ _ _ _ ⟨by omega, fun e he => (by cases he), by simp [nov, nov1], fun j x h => (by cases h), by rw [if_neg hc]⟩
end

end Ab
end Go.Proofs.YtidoflgcblglbaaDoor
