/-
  DERIVED. lockstepref26.fits.
  Conditions: enough rounds, enough depth; bounded lengths.
-/
import Derived.Test.YtidoflgcblglbaaDoorWD
import Derived.Test.YtidoflgcblglbaaDoorW7
set_option linter.all false
set_option maxHeartbeats 4000000
namespace Go.Proofs.YtidoflgcblglbaaDoor
namespace Ab
open Go.Lib
set_option maxRecDepth 100000
set_option maxHeartbeats 4000000
set_option linter.all false
attribute [local simp] wp_region regionA opsA nCall rCall goCallR pCall pnCall lenA appendA appRow newsA rowsSz rowsOf isIntD makeSliceA elemOf rowsBuilt eqA eq1

theorem recs_at {zw : Bool} {wrows : List (List AV)} {l : List Rec} (hw : RecsV (.vs zw 6 wrows) l) {k : Nat} {r : Rec} (hr : l[k]? = some r) : ∃ zp za, wrows[k]? = some (recCells zp za r) ∧ (zp = true → r.parts = []) ∧ (za = true → r.args = []) := by
  obtain ⟨z', rows', e, h1, h2, h3⟩ := hw
  cases e
  obtain ⟨c, hc⟩ : ∃ c, wrows[k]? = some c := ⟨_, List.getElem?_eq_getElem (by have := (List.getElem?_eq_some_iff.1 hr).1; omega)⟩
  obtain ⟨zp, za, rfl, h4, h5⟩ := h3 k c r hc hr
  exact ⟨zp, za, hc, h4, h5⟩
open Classical in
noncomputable def fitB (logs : Logs) (i : Nat) (l : List Rec) (k : Nat) (r : Rec) : Bool := decide (FitAt logs i l k r ∧ FindFit logs r)
theorem p_fits {K m : Nat} (hK : big K) (hm : 4 ≤ m) {v : AV} {logs : Logs} (hv : LogsV v logs) (hB : LogsB logs) {i k : Nat} {l : List Rec} {r : Rec} (hl : logs[i]? = some l) (hr : l[k]? = some r) (hcan : CanR r) :
    pR (callA cfg K m) 33 [v, .i .i64 (i : Nat), .i .i64 (k : Nat)] = some (.b (fitB logs i l k r)) := by
  obtain ⟨m, rfl⟩ : ∃ k, m = k + 1 := ⟨m - 1, by omega⟩
  have hv0 := hv
  obtain ⟨z, rows, rfl, hrl, _, _⟩ := hv0
  have hi : i < logs.length := (List.getElem?_eq_some_iff.1 hl).1
  obtain ⟨zw, wrows, hc, hw, hlq, hwl, hwz⟩ := log_at hv hi
  have hla : logAt logs i = l := by rw [hl] at hlq; exact (Option.some.inj hlq).symm
  rw [hla] at hw hwl hwz
  obtain ⟨zp, za, hrc, _, _⟩ := recs_at hw hr
  have hlb := hB.log l (List.mem_of_getElem? hl)
  have hll := hlb.len
  have hlen := hB.len
  have hrb := hlb.each r (List.mem_of_getElem? hr)
  have hkl : k < l.length := (List.getElem?_eq_some_iff.1 hr).1
  have hin := p_rin (K := K) (n := m) hK (by omega) zp r.parts i hrb.parts
  have hP := hcan.2.1
  have hpl := hP.1
  obtain ⟨x, hx⟩ : ∃ x, r.parts[r.parts.length - 1]? = some x := ⟨_, List.getElem?_eq_getElem (by omega)⟩
  have hxr := int_row hx
  have hlast := hP.last (m := logs.length) hx
  have wl : IntKind.i64.wrap ((r.parts.length : Int) - 1) = ((r.parts.length - 1 : Nat) : Int) := by have := hrb.parts; rw [wrap_i64 (by omega) (by omega)]; omega
  have hpl1 : r.parts.length - 1 < r.parts.length := by omega
  have no : (¬ FitAt logs i l k r) → fitB logs i l k r = false := fun h => by simp [fitB, h]
  refine pr_of rfl ?_ rfl
  refine run_wp Tryd.func33 rfl (by simp [Tryd.f33]) ?_
  have zwf : zw = false := by
    cases zw with
    | false => rfl
    | true => have := (hwz rfl).1; rw [this] at hr; simp at hr
  subst zwf
  have hrise : (∀ (j : Nat) (a : Rec), j + 1 = k → l[j]? = some a → a.id < r.id) ∨ ∃ (j : Nat) (a : Rec), j + 1 = k ∧ l[j]? = some a ∧ ¬ a.id < r.id := by
    by_cases h : ∀ (j : Nat) (a : Rec), j + 1 = k → l[j]? = some a → a.id < r.id
    · exact .inl h
    · right
      simp only [Classical.not_forall] at h
      obtain ⟨j, a, h1, h2, h3⟩ := h
      exact ⟨j, a, h1, h2, h3⟩
  rcases hrise with hrise | ⟨j, a, hj, hja, hna⟩
  · have hor : ¬ 0 < k ∨ (0 < k ∧ ∃ (j : Nat) (a : Rec) (zp' za' : Bool), IntKind.i64.wrap ((k : Int) - 1) = (j : Int) ∧ wrows[j]? = some (recCells zp' za' a) ∧ ¬ (r.id : Int) ≤ a.id) := by
      by_cases k0 : 0 < k
      · obtain ⟨a, ha⟩ : ∃ a, l[k - 1]? = some a := ⟨_, List.getElem?_eq_getElem (by omega)⟩
        obtain ⟨zp', za', hac, _, _⟩ := recs_at hw ha
        have := hrise (k - 1) a (by omega) ha
        exact .inr ⟨k0, k - 1, a, zp', za', by rw [wrap_i64 (by omega) (by omega)]; omega, hac, by omega⟩
      · exact .inl k0
    by_cases hown : (i : Int) ∈ r.parts
    · have hin' : pR (callA cfg K m) 59 [.vs zp 1 (ints r.parts), .i .i64 (i : Nat)] = some (.b true) := by rw [hin]; simp [hown]
      by_cases hxl : (x : Int) < logs.length
      · have hxl' : ¬ (logs.length : Int) ≤ x := by omega
        have hfit : FitAt logs i l k r := ⟨hrise, hown, hlast.1 hxl⟩
        apply two hor
        · intro k0 h
          simp [hc, hrc, recCells, k0, hin', wl, hxr, hpl1, hrl, hxl']
          refine ⟨⟨by kernel_rfl, by kernel_rfl⟩, ?_⟩
          exact h
        · rintro ⟨k0, j, a, zp', za', wj, hac, hle⟩ h
          simp [hc, hrc, hac, recCells, k0, wj, hle, hin', wl, hxr, hpl1, hrl, hxl']
          refine ⟨⟨by kernel_rfl, by kernel_rfl⟩, ?_⟩
          exact h
        refine loop_wp (ι := Nat × Nat) (fun j => { env := [(0, .vs z 1 rows), (7, .lp 7 8 0), (8, .i .i64 (j.1 : Nat))], loc := [(7, (8, .cells (recCells zp za r)))], hp := [], nx := j.2 }) (fun j => logs.length - j.1)
          (fun j => j.1 ≤ logs.length ∧ ∀ (q : Nat) (w : List Rec) (at_ : Nat) (b : Rec), q < j.1 → logs[q]? = some w → findId w r.id = some at_ → w[at_]? = some b → sameRec b r) (0, _) rfl ⟨Nat.zero_le _, fun q w at_ b h => by simp at h⟩ (by simp; unfold big at hK; omega) ?_
        rintro Next ⟨j, nx⟩ ⟨hj, he⟩ hnext
        simp only at hj he hnext
        by_cases hlt : j < logs.length
        · obtain ⟨zj, jrows, hcj, hwj, hlj, hwlj, hwzj⟩ := log_at hv hlt
          have hlbj := hB.log _ (List.mem_of_getElem? hlj)
          have hfd := p_rfind (K := K) (n := m) hK (by omega) hwj hlbj.len r.id
          have c1 : (j : Int) < logs.length := by omega
          have c3 : IntKind.i64.wrap ((j : Int) + 1) = ((j + 1 : Nat) : Int) := by rw [wrap_i64 (by omega) (by omega)]; omega
          have hnx : (∀ (at_ : Nat) (b : Rec), findId (logAt logs j) r.id = some at_ → (logAt logs j)[at_]? = some b → sameRec b r) → ∀ N' : Nat, Next { env := [(0, .vs z 1 rows), (7, .lp 7 8 0), (8, .i .i64 ((j + 1 : Nat) : Int))], loc := [(7, (8, .cells (recCells zp za r)))], hp := [], nx := N' } := fun hh N' => hnext (j + 1, N') (by simp only; omega) ⟨by simp only; omega, fun q w at_ b hq h1 h2 h3 => by
            simp only at hq
            by_cases e : q = j
            · subst e; rw [hlj] at h1; cases h1; exact hh at_ b h2 h3
            · exact he q w at_ b (by omega) h1 h2 h3⟩
          cases hf : findId (logAt logs j) r.id with
          | none =>
            rw [hf] at hfd
            simp only at hfd
            simp [hrl, c1, hcj, recCells, hfd, c3]
            refine ⟨⟨by kernel_rfl, by kernel_rfl⟩, ⟨by kernel_rfl, by kernel_rfl⟩, ?_⟩
            exact hnx (fun at_ b h => by rw [hf] at h; cases h) _
          | some at_ =>
            rw [hf] at hfd
            simp only at hfd
            obtain ⟨b, h2, h3⟩ := findId_some hf
            obtain ⟨zp', za', hbc, _, _⟩ := recs_at hwj h2
            have hbb := hlbj.each b (List.mem_of_getElem? h2)
            have hsm := p_rSame (K := K) (n := m) hK (by omega) zp' za' zp za b r hbb
            unfold recCells at hsm
            have a0 : ¬ (at_ : Int) < 0 := by omega
            by_cases g : sameRec b r
            · rw [sameB_yes g] at hsm
              simp [hrl, c1, hcj, recCells, hfd, hbc, hsm, c3]
              refine ⟨⟨by kernel_rfl, by kernel_rfl⟩, ⟨by kernel_rfl, by kernel_rfl⟩, ?_⟩
              exact hnx (fun at' b' h h' => by rw [hf] at h; cases h; rw [h2] at h'; cases h'; exact g) _
            · rw [sameB_no g] at hsm
              have hff : fitB logs i l k r = false := by
                have : ¬ (FitAt logs i l k r ∧ FindFit logs r) := fun h => g (h.2 j _ at_ b hlj hf h2)
                simp [fitB, this]
              simp [hrl, c1, hcj, recCells, hfd, hbc, hsm, hff]
              exact ⟨⟨by kernel_rfl, by kernel_rfl⟩, ⟨by kernel_rfl, by kernel_rfl⟩⟩
        · have hjl : j = logs.length := by omega
          subst hjl
          have hff : fitB logs i l k r = true := by
            have : FindFit logs r := fun q w at_ b h1 h2 h3 => he q w at_ b (List.getElem?_eq_some_iff.1 h1).1 h1 h2 h3
            simp [fitB, hfit, this]
          simp [hrl, hff]
      · have hf := no fun h => hxl (hlast.2 h.last)
        have hxl' : (logs.length : Int) ≤ x := by omega
        rcases hor with k0 | ⟨k0, j, a, zp', za', wj, hac, hle⟩
        · simp [hc, hrc, recCells, k0, hin', wl, hxr, hpl1, hrl, hxl', hf]
          exact ⟨by kernel_rfl, by kernel_rfl⟩
        · simp [hc, hrc, hac, recCells, k0, wj, hle, hin', wl, hxr, hpl1, hrl, hxl', hf]
          exact ⟨by kernel_rfl, by kernel_rfl⟩
    · have hin' : pR (callA cfg K m) 59 [.vs zp 1 (ints r.parts), .i .i64 (i : Nat)] = some (.b false) := by rw [hin]; simp [hown]
      have hf := no fun h => hown h.own
      rcases hor with k0 | ⟨k0, j, a, zp', za', wj, hac, hle⟩
      · simp [hc, hrc, recCells, k0, hin', hf]
        exact ⟨by kernel_rfl, by kernel_rfl⟩
      · simp [hc, hrc, hac, recCells, k0, wj, hle, hin', hf]
        exact ⟨by kernel_rfl, by kernel_rfl⟩
  · have hf := no fun h => hna (h.rise j a hj hja)
    obtain ⟨zp', za', hac, _, _⟩ := recs_at hw hja
    have k0 : 0 < k := by omega
    have wj : IntKind.i64.wrap ((k : Int) - 1) = (j : Int) := by rw [wrap_i64 (by omega) (by omega)]; omega
    have hle : (r.id : Int) ≤ a.id := by omega
    simp [hc, hrc, hac, recCells, k0, wj, hle, hf]
    exact ⟨by kernel_rfl, by kernel_rfl⟩

end Ab
end Go.Proofs.YtidoflgcblglbaaDoor
