/-
  DERIVED. lockstepref26.Order: the least of all heads again and again.
  Conditions: enough rounds, enough depth; bounded lengths.
-/
import Derived.Test.YtidoflgcblglbaaDoorWH
set_option linter.all false
set_option maxHeartbeats 4000000
namespace Go.Proofs.YtidoflgcblglbaaDoor
namespace Ab
open Go.Lib
set_option maxRecDepth 100000
set_option maxHeartbeats 4000000
set_option linter.all false
attribute [local simp] wp_regW opsW_nil opsW_cons opsK_eq regK_no regK_draw oW_n oW_h oW_r oW_pn convA appendA appRow newsA rowsSz rowsOf isIntD makeSliceA elemOf rowsBuilt eqA eq1 lenA

/-- What the best head is told by. -/
def bestI (b : Option Nat) : Int := match b with
  | some x => (x : Int)
  | none => -1
/-- What Order answers. -/
def OrdW (logs : Logs) (nx : Nat) (r : AV) (H : Hp) (N : Nat) : Prop := nx ≤ N ∧ (∀ j x, lk H j = some x → nx ≤ j ∧ j < N) ∧ (if chk logs = 0 then ∃ (w : AV) (B : List Rec), r = .tup [w, .i .i64 0] ∧ RecsO H nx N w B ∧ Rising B ∧ (∀ b ∈ B, Cnt logs (cutAll logs) b) ∧ (∀ x, Cnt logs (cutAll logs) x → ∃ b ∈ B, b.id = x.id) ∧ B.length ≤ 2 ^ 22 else r = .tup [.vs true 0 [], .i .i64 (chk logs)])
theorem nAt_le_sum : ∀ (a : List Nat) (p : Nat), nAt a p ≤ a.sum
  | [], p => by simp [nAt]
  | x :: a, 0 => by simp [nAt]
  | x :: a, p + 1 => by
    have := nAt_le_sum a p
    have e : nAt (x :: a) (p + 1) = nAt a p := by simp [nAt]
    rw [e, List.sum_cons]
    omega
theorem get_of {α : Type} {l : List α} {i : Nat} {c : α} (h : l[i]? = some c) : ∀ g, l[i]'g = c := fun g => by
  rw [List.getElem?_eq_getElem g] at h
  exact Option.some.inj h
theorem nAt_get {n : List Nat} {i : Nat} (h : i < n.length) : n[i]? = some (nAt n i) := by
  unfold nAt
  rw [List.getElem?_eq_getElem h]
  rfl
theorem recsO_keep {H H' : Hp} {nx N N' : Nat} {v : AV} {B : List Rec} (h : RecsO H nx N v B) (hk : ∀ j, nx ≤ j → j < N → (∃ g rows, lk H j = some (g, .arr 6 rows)) → lk H' j = lk H j) (hN : N ≤ N') : RecsO H' nx N' v B := by
  rcases h with h | ⟨kn, g, rows, h1, h2, h3, h4, h5, h6⟩
  · exact .inl h
  · exact .inr ⟨kn, g, rows, h1, by rw [hk kn h5 h6 ⟨_, _, h2⟩]; exact h2, h3, h4, h5, by omega⟩
theorem c_rOrder {K m nx : Nat} (hK : big K) (hm : 13 ≤ m) {v : AV} {logs : Logs} (hv : LogsV v logs) (hB : LogsB logs) (hsum : (logs.map List.length).sum ≤ 2 ^ 22) : Sp K m 13 [v] [] nx (OrdW logs nx) := by
  refine sp_cps fun Q hQ => ?_
  obtain ⟨m, rfl⟩ : ∃ k, m = k + 1 := ⟨m - 1, by omega⟩
  have hcut := fun N => c_rCut (K := K) (m := m) (nx := N) hK (by omega) hv hB hsum
  have hv0 := hv
  obtain ⟨z, rows, rfl, hrl, _, _⟩ := hv0
  refine sp_of rfl (run_wp Tryd.func13 rfl (by simp [Tryd.f13]) ?_)
  simp
  refine (hcut _).beside ?_
  rintro r H0 N0 ⟨hN0, hk0, h0⟩
  rw [besideE_lay]
  by_cases hc : chk logs = 0
  · rw [if_pos hc] at h0
    obtain ⟨ka, ga, rfl, hlka, hka1, hka2⟩ := h0
    obtain ⟨hl1, hF, hCan⟩ := chk_fits hc
    have hll : logs.length ≤ 64 := by
      unfold chk at hc
      split at hc
      · cases hc
      · omega
    have hmk : logs.length * 9 ≤ 68719476736 := by omega
    have hP : ∀ (i k : Nat) (r : Rec), (logAt logs i)[k]? = some r → PartsOk r.parts := fun i k r h => (hCan i k r h).2.1
    have hns : (cutAll logs).sum ≤ 2 ^ 22 := Nat.le_trans (sum_le (by rw [cutAll_len]; simp) fun i => by
      have h1 := cutAll_le logs i
      have : nAt (logs.map List.length) i = (logAt logs i).length := by
        unfold nAt logAt
        rw [List.getElem?_map]
        cases logs[i]? <;> rfl
      omega) hsum
    have hrep : List.replicate logs.length [AV.i .i64 0] = natRows (List.replicate logs.length 0) := by simp [natRows]
    simp [foldl_layW, hrl, mostB, hmk]
    rw [hrep]
    generalize hja : N0 + 2 + 1 + 2 = ja
    have hne : ¬ ka = ja := by omega
    refine loop_wp (ι := List Nat × List Rec × AV × Hp × Nat × List (Nat × AV) × List (Nat × (Nat × AO))) (fun i => { env := [(0, .vs z 1 rows), (4, .rs ka ga 0 logs.length 1), (6, i.2.2.1), (7, .rs ja 0 0 logs.length 1)] ++ i.2.2.2.2.2.1, loc := i.2.2.2.2.2.2, hp := i.2.2.2.1, nx := i.2.2.2.2.1 }) (fun i => (cutAll logs).sum - i.1.sum)
      (fun i => Merge logs (cutAll logs) i.1 i.2.1 ∧ i.2.1.length ≤ i.1.sum ∧ ja < i.2.2.2.2.1 ∧ (∀ j x, lk i.2.2.2.1 j = some x → nx ≤ j ∧ j < i.2.2.2.2.1) ∧ lk i.2.2.2.1 ka = some (ga, .arr 1 (natRows (cutAll logs))) ∧ lk i.2.2.2.1 ja = some (0, .arr 1 (natRows i.1)) ∧ RecsO i.2.2.2.1 nx i.2.2.2.2.1 i.2.2.1 i.2.1 ∧ ((i.2.2.2.2.2.1 = [] ∧ i.2.2.2.2.2.2 = []) ∨ ∃ n0 b cs, i.2.2.2.2.2.1 = [(10, .lp 10 n0 0), (11, .i .i64 b), (89, .b false)] ∧ i.2.2.2.2.2.2 = [(10, (n0, .cells cs))]))
      (List.replicate logs.length 0, [], .vs true 0 [], up (layH [] H0) ja (0, .arr 1 (natRows (List.replicate logs.length 0))), _, [], []) rfl ⟨merge_start logs _, by simp, by simp only; omega, fun j x h => ?_, ?_, by simp only [lk_set, if_true], .inl ⟨rfl, rfl⟩, .inl ⟨rfl, rfl⟩⟩ (by simp only; unfold big at hK; omega) ?_
    · simp only [lk_set] at h
      split at h
      · simp only; omega
      · rw [lk_layH] at h
        cases h2 : lk H0 j with
        | none => rw [h2] at h; cases h
        | some y => have := hk0 j y h2; simp only; omega
    · simp only
      rw [lk_set, if_neg hne]
      exact lay_new hlka
    rintro Next ⟨at_, B, out, H, N, e, lc⟩ ⟨hM, hBl, hjN, hkeys, hlkn, hlkj, hO, he⟩ hnext
    simp only at hM hBl hjN hkeys hlkn hlkj hO he hnext
    have hal : at_.length = logs.length := hM.len
    have hsl : at_.sum ≤ (cutAll logs).sum := sum_le (by rw [hal, cutAll_len]) hM.le
    have hcl : (cutAll logs).length = logs.length := cutAll_len logs
    apply two he
    · rintro ⟨rfl, rfl⟩ h
      simp
      exact h
    · rintro ⟨n0, b, cs, rfl, rfl⟩ h
      simp
      exact h
    refine loop_wp (ι := Nat × Nat) (fun i => { env := [(0, .vs z 1 rows), (4, .rs ka ga 0 logs.length 1), (6, out), (7, .rs ja 0 0 logs.length 1), (8, .i .i64 (bestI (bestTo logs (cutAll logs) at_ i.1))), (9, .i .i64 (i.1 : Nat))], loc := [], hp := H, nx := i.2 }) (fun i => logs.length - i.1)
      (fun i => i.1 ≤ logs.length ∧ N ≤ i.2) (0, _) rfl ⟨Nat.zero_le _, by simp only; omega⟩ (by simp; unfold big at hK; omega) ?_
    rintro Next2 ⟨i, N2⟩ ⟨hi, hN2⟩ hnext2
    simp only at hi hN2 hnext2
    by_cases hlt : i < logs.length
    · obtain ⟨zw, wrows, hcr, hw, hlq, hwl, hwz⟩ := log_at hv hlt
      have c1 : (i : Int) < logs.length := by omega
      have c3 : IntKind.i64.wrap ((i : Int) + 1) = ((i + 1 : Nat) : Int) := by rw [wrap_i64 (by omega) (by omega)]; omega
      have i1 : i < at_.length := by omega
      have i2 : i < (cutAll logs).length := by omega
      have hr1 := nat_row (nAt_get i1)
      have hr2 := nat_row (nAt_get i2)
      have hfin : ∀ N' : Nat, N ≤ N' → Next2 { env := [(0, .vs z 1 rows), (4, .rs ka ga 0 logs.length 1), (6, out), (7, .rs ja 0 0 logs.length 1), (8, .i .i64 (bestI (bestTo logs (cutAll logs) at_ (i + 1)))), (9, .i .i64 ((i + 1 : Nat) : Int))], loc := [], hp := H, nx := N' } := fun N' h => hnext2 (i + 1, N') (by simp only; omega) ⟨by simp only; omega, h⟩
      by_cases g : nAt at_ i < nAt (cutAll logs) i
      · have g' : (nAt at_ i : Int) < nAt (cutAll logs) i := by omega
        have hle := cutAll_le logs i
        obtain ⟨r, hr⟩ : ∃ r, (logAt logs i)[nAt at_ i]? = some r := ⟨_, List.getElem?_eq_getElem (by omega)⟩
        obtain ⟨zp, za, hrc, _, _⟩ := recs_at hw hr
        have hid : headId logs at_ i = r.id := by unfold headId; rw [hr]; rfl
        cases hb : bestTo logs (cutAll logs) at_ i with
        | none =>
          have hb2 : bestTo logs (cutAll logs) at_ (i + 1) = some i := by rw [bestTo, if_pos g, hb]
          rw [hb2] at hfin
          simp [hb, bestI, c1, hlkj, hlkn, i1, i2, hal, hcl, hlt, hr1, hr2, g, g', c3, hrl]
          refine ⟨⟨stat_fast (by kernel_rfl), dyn_quiet (by simp [quietE])⟩, ?_⟩
          exact hfin _ (by omega)
        | some b =>
          obtain ⟨b1, b2, _⟩ := best_some hb
          have bl : b < logs.length := by omega
          obtain ⟨zb, brows, hcb, hbw, hlb, hbl, hbz⟩ := log_at hv bl
          have hle2 := cutAll_le logs b
          obtain ⟨s, hs⟩ : ∃ s, (logAt logs b)[nAt at_ b]? = some s := ⟨_, List.getElem?_eq_getElem (by omega)⟩
          obtain ⟨zp2, za2, hsc, _, _⟩ := recs_at hbw hs
          have hid2 : headId logs at_ b = s.id := by unfold headId; rw [hs]; rfl
          have b3 : b < at_.length := by omega
          have hr3 := nat_row (nAt_get b3)
          have hb0 : ¬ (b : Int) < 0 := by omega
          by_cases q : r.id < s.id
          · have q' : (r.id : Int) < s.id := by omega
            have hb2 : bestTo logs (cutAll logs) at_ (i + 1) = some i := by rw [bestTo, if_pos g, hb]; simp only [hid, hid2, q, if_true]
            rw [hb2] at hfin
            simp [hb, bestI, c1, hlkj, hlkn, i1, i2, hal, hcl, hlt, hr1, hr2, g, g', c3, hrl, hb0, hcr, get_of hcr, hrc, get_of hrc, recCells, hcb, get_of hcb, hsc, get_of hsc, bl, hr3, q']
            refine ⟨⟨stat_fast (by kernel_rfl), dyn_quiet (by simp [quietE])⟩, ?_⟩
            exact hfin _ (by omega)
          · have q' : ¬ (r.id : Int) < s.id := by omega
            have hb2 : bestTo logs (cutAll logs) at_ (i + 1) = some b := by rw [bestTo, if_pos g, hb]; simp only [hid, hid2, q, if_false]
            rw [hb2] at hfin
            simp [hb, bestI, c1, hlkj, hlkn, i1, i2, hal, hcl, hlt, hr1, hr2, g, g', c3, hrl, hb0, hcr, get_of hcr, hrc, get_of hrc, recCells, hcb, get_of hcb, hsc, get_of hsc, bl, hr3, q']
            refine ⟨⟨stat_fast (by kernel_rfl), dyn_quiet (by simp [quietE])⟩, ?_⟩
            exact hfin _ (by omega)
      · have hb2 : bestTo logs (cutAll logs) at_ (i + 1) = bestTo logs (cutAll logs) at_ i := by rw [bestTo, if_neg g]
        have g' : ¬ (nAt at_ i : Int) < nAt (cutAll logs) i := by omega
        rw [hb2] at hfin
        simp [c1, hlkj, hlkn, i1, i2, hal, hcl, hlt, hr1, hr2, g, g', c3, hrl]
        refine ⟨⟨stat_fast (by kernel_rfl), dyn_quiet (by simp [quietE])⟩, ?_⟩
        exact hfin _ (by omega)
    · have hil : i = logs.length := by omega
      subst hil
      clear hnext2
      cases hb : bestTo logs (cutAll logs) at_ logs.length with
      | none =>
        have hmv : out.mv = true := by
          rcases hO with ⟨_, rfl⟩ | ⟨_, _, _, rfl, _⟩ <;> rfl
        simp [hb, bestI, hrl, hmv]
        refine hQ _ _ _ ⟨by omega, fun j x h => by have := hkeys j x h; omega, ?_⟩
        rw [if_pos hc]
        exact ⟨out, B, rfl, recsO_keep hO (fun _ _ _ _ => rfl) (by omega), hM.rise, hM.cnt, fun x hx => merge_end hcl hM hb hx, by omega⟩
      | some b =>
        have hb0 : ¬ (b : Int) < 0 := by omega
        obtain ⟨b1, b2, _⟩ := best_some hb
        obtain ⟨zb, brows, hcb, hbw, hlb, hbl, hbz⟩ := log_at hv b1
        have hle2 := cutAll_le logs b
        obtain ⟨r, hr⟩ : ∃ r, (logAt logs b)[nAt at_ b]? = some r := ⟨_, List.getElem?_eq_getElem (by omega)⟩
        obtain ⟨zp, za, hrc, hzp, hza⟩ := recs_at hbw hr
        have b3 : b < at_.length := by omega
        have hr3 := nat_row (nAt_get b3)
        obtain ⟨hM2, hpar⟩ := merge_step hF (fun i k x h => (hP i k x h).nodup) hcl (fun i => cutAll_le logs i) (fun i k x h1 h2 => cutAll_closed logs h1 h2) hM hb hr
        have hPr := hP b _ r hr
        have hpl := hPr.2.1
        have hpl1 := hPr.1
        have hrb : RecC (recCells zp za r) r := ⟨zp, za, rfl, hzp, hza⟩
        -- from the append on
        have tail : ∀ (out' : AV) (H' : Hp) (N' n0 : Nat), ja < N' → (∀ j x, lk H' j = some x → nx ≤ j ∧ j < N') → lk H' ka = some (ga, .arr 1 (natRows (cutAll logs))) → lk H' ja = some (0, .arr 1 (natRows at_)) → RecsO H' nx N' out' (B ++ [r]) →
            wp (loopK cfg (callA cfg K m) K 13 (loopOf Tryd.f13 2) { env := [(0, .vs z 1 rows), (4, .rs ka ga 0 logs.length 1), (6, out'), (7, .rs ja 0 0 logs.length 1), (10, .lp 10 n0 0), (11, .i .i64 0)], loc := [(10, (n0, .cells (recCells zp za r)))], hp := H', nx := N' }) (blkQ 4 (blkQ 1 (loopQ Next (blkQ 0 (retQ cfg [ResultVar.tmp 2, ResultVar.tmp 3] Q))))) := by
          intro out' H' N' n0 hj' hk' hl1' hl2' hO'
          refine loop_wp (ι := Nat × Hp × Nat) (fun j => { env := [(0, .vs z 1 rows), (4, .rs ka ga 0 logs.length 1), (6, out'), (7, .rs ja 0 0 logs.length 1), (10, .lp 10 n0 0), (11, .i .i64 (j.1 : Nat))], loc := [(10, (n0, .cells (recCells zp za r)))], hp := j.2.1, nx := j.2.2 }) (fun j => r.parts.length - j.1)
            (fun j => j.1 ≤ r.parts.length ∧ ja < j.2.2 ∧ (∀ q x, lk j.2.1 q = some x → nx ≤ q ∧ q < j.2.2) ∧ lk j.2.1 ka = some (ga, .arr 1 (natRows (cutAll logs))) ∧ lk j.2.1 ja = some (0, .arr 1 (natRows (bump at_ (r.parts.take j.1)))) ∧ RecsO j.2.1 nx j.2.2 out' (B ++ [r])) (0, H', N') rfl ⟨Nat.zero_le _, hj', hk', hl1', by simpa [bump] using hl2', hO'⟩ (by simp only; unfold big at hK; omega) ?_
          rintro Next3 ⟨j, H3, N3⟩ ⟨hj, hj3, hk3, hl3, hl4, hO3⟩ hnext3
          simp only at hj hj3 hk3 hl3 hl4 hO3 hnext3
          by_cases hjl : j < r.parts.length
          · obtain ⟨p, hp⟩ : ∃ p, r.parts[j]? = some p := ⟨_, List.getElem?_eq_getElem hjl⟩
            have hpm := List.mem_of_getElem? hp
            obtain ⟨p0, p1⟩ := hpar p hpm
            obtain ⟨q, rfl⟩ : ∃ q : Nat, p = q := ⟨p.toNat, (Int.toNat_of_nonneg p0).symm⟩
            have hq : q < logs.length := by omega
            have hbl2 : (bump at_ (r.parts.take j)).length = logs.length := by rw [bump_len, hal]
            have hq2 : q < (bump at_ (r.parts.take j)).length := by omega
            have hrq := nat_row (nAt_get hq2)
            have hsu := bump_sum (r.parts.take j) at_ fun p hp => by rw [hal]; exact hpar p (List.mem_of_mem_take hp)
            have hnle := nAt_le_sum (bump at_ (r.parts.take j)) q
            have htl : (r.parts.take j).length = j := by rw [List.length_take]; omega
            have k1 : (j : Int) < r.parts.length := by omega
            have k3 : IntKind.i64.wrap ((j : Int) + 1) = ((j + 1 : Nat) : Int) := by rw [wrap_i64 (by omega) (by omega)]; omega
            have k4 : IntKind.i64.wrap ((nAt (bump at_ (r.parts.take j)) q : Int) + 1) = ((nAt (bump at_ (r.parts.take j)) q + 1 : Nat) : Int) := by rw [wrap_i64 (by omega) (by omega)]; omega
            have hset : (natRows (bump at_ (r.parts.take j))).set q [.i .i64 ((nAt (bump at_ (r.parts.take j)) q + 1 : Nat) : Int)] = natRows (bump at_ (r.parts.take (j + 1))) := by
              rw [List.take_add_one, hp, Option.toList_some, bump_snoc, Int.toNat_natCast]
              simp [natRows, List.map_set]
            have hpr := int_row hp
            have e1 : ((nAt (bump at_ (r.parts.take j)) q + 1 : Nat) : Int) = (nAt (bump at_ (r.parts.take j)) q : Int) + 1 := by omega
            rw [e1] at hset k4
            simp [loopOf, loopsIn, Tryd.f13, recCells, k1, hjl, hpr, hl4, hq, hbl2, hrq, k4, hset, k3]
            refine hnext3 (j + 1, up H3 ja (0, .arr 1 (natRows (bump at_ (r.parts.take (j + 1))))), _) (by simp only; omega) ⟨by simp only; omega, by simp only; omega, fun w x h => ?_, ?_, ?_, ?_⟩
            · simp only [lk_set] at h
              split at h
              · simp only; omega
              · have := hk3 w x h; simp only; omega
            · simp only
              rw [lk_set, if_neg hne]; exact hl3
            · simp only [lk_set, if_true]
            · refine recsO_keep hO3 (fun w _ _ ⟨g', rows', e⟩ => ?_) (by simp only; omega)
              simp only
              rw [lk_set, if_neg (lk_ne e hl4 (by omega))]
          · have hje : j = r.parts.length := by omega
            subst hje
            rw [List.take_length] at hl4
            have hsu := bump_sum r.parts at_ fun p hp => by rw [hal]; exact hpar p hp
            simp [loopOf, loopsIn, Tryd.f13, recCells]
            refine hnext (bump at_ r.parts, B ++ [r], out', H3, _, [(10, .lp 10 n0 0), (11, .i .i64 (r.parts.length : Nat)), (89, .b false)], [(10, (n0, .cells (recCells zp za r)))]) ?_ ⟨hM2, ?_, by simp only; omega, fun w x h => by have := hk3 w x h; simp only; omega, hl3, hl4, recsO_keep hO3 (fun _ _ _ _ => rfl) (by simp only; omega), .inr ⟨_, _, _, rfl, rfl⟩⟩
            · have hs2 : (bump at_ r.parts).sum ≤ (cutAll logs).sum := sum_le (by rw [bump_len, hal, hcl]) hM2.le
              simp only
              omega
            · simp only [List.length_append, List.length_singleton]
              omega
        have hrd : ∀ x : Nat, RecC (recCells zp za r) r := fun _ => hrb
        rcases hO with ⟨rfl, rfl⟩ | ⟨kn, g, orows, rfl, hlko, hol, horows, hkn1, hkn2⟩
        · simp [hb, bestI, hrl, hb0, hcb, get_of hcb, hlkj, b3, hal, b1, hr3, hrc, get_of hrc, recCells, lk_set, mostB]
          refine ⟨⟨stat_fast (by kernel_rfl), by simp [dynOk, pairsOk, befOf, Region.binds, Eff.apart, Eff.clear, Eff.wkeys, Ref.key, AV.refs0, List.range, List.range.loop, sameAt]⟩, ?_⟩
          refine tail (.rs (N2 + 4 + 2 + 12 + 3) 0 0 1 6) _ _ _ (by omega) (fun w x h => ?_) ?_ ?_ (.inr ⟨N2 + 4 + 2 + 12 + 3, 0, [recCells zp za r], rfl, by rw [lk_set, if_pos rfl]; rfl, rfl, fun w c x hc hx => ?_, by omega, by omega⟩)
          · simp only [lk_set] at h
            split at h
            · omega
            · split at h
              · omega
              · have := hkeys w x h; omega
          · rw [lk_set, if_neg (by omega), lk_set, if_neg (by omega)]; exact hlkn
          · rw [lk_set, if_neg (by omega), lk_set, if_neg (by omega)]; exact hlkj
          · cases w with
            | zero => cases hc; cases hx; exact hrb
            | succ w => simp at hc
        · have hsh : shown orows 0 B.length = orows := shown_all hol.symm
          have hbb : (B.length + 1) * 89 ≤ 68719476736 := by omega
          have hnk : ∀ c, ¬ kn = N2 + c := fun c => by omega
          simp [hb, bestI, hrl, hb0, hcb, get_of hcb, hlkj, b3, hal, b1, hr3, hrc, get_of hrc, recCells, lk_set, mostB, hlko, hol, hsh, hbb, hnk, Nat.add_assoc]
          refine ⟨⟨stat_fast (by kernel_rfl), by simp [dynOk, pairsOk, befOf, Region.binds, Eff.apart, Eff.clear, Eff.wkeys, Ref.key, AV.refs0, List.range, List.range.loop, sameAt]⟩, ?_⟩
          have hnk2 := lk_ne hlko hlkn (by omega)
          have hnk3 := lk_ne hlko hlkj (by omega)
          refine tail (.rs kn (g + 1) 0 (B.length + 1) 6) _ _ _ (by omega) (fun w x h => ?_) ?_ ?_ (.inr ⟨kn, g + 1, orows ++ [recCells zp za r], by simp, by rw [lk_set, if_pos rfl]; rfl, by simp [hol], fun w c x hc hx => ?_, by omega, by omega⟩)
          · simp only [lk_set] at h
            split at h
            · omega
            · split at h
              · omega
              · have := hkeys w x h; omega
          · rw [lk_set, if_neg (fun e => hnk2 e.symm), lk_set, if_neg (by omega)]; exact hlkn
          · rw [lk_set, if_neg (fun e => hnk3 e.symm), lk_set, if_neg (by omega)]; exact hlkj
          · by_cases hw : w < B.length
            · rw [List.getElem?_append_left (by omega)] at hc
              rw [List.getElem?_append_left hw] at hx
              exact horows w c x hc hx
            · have hj := (List.getElem?_eq_some_iff.1 hc).1
              rw [List.length_append, List.length_singleton] at hj
              have hji : w = B.length := by omega
              subst hji
              rw [List.getElem?_append_right (by omega), hol, Nat.sub_self] at hc
              rw [List.getElem?_append_right (by omega), Nat.sub_self] at hx
              cases hc; cases hx
              exact hrb
  · rw [if_neg hc] at h0
    subst h0
    have hc' : (chk logs != 0) = true := by simp [hc]
    simp [foldl_layW, hc']
    exact hQ _ _ _ ⟨by omega, lay_keys (n0 := nx) (N := nx + 2 + 7) (fun j x h => (by cases h)) (fun j x h => by have := hk0 j x h; omega) (by omega) (by omega), by rw [if_neg hc]⟩

end Ab
end Go.Proofs.YtidoflgcblglbaaDoor
