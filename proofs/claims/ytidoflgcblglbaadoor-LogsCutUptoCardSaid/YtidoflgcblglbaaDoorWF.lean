/-
  DERIVED. slices.Clone of ints and of values.
  Conditions: bounded lengths.
-/
import Derived.Test.YtidoflgcblglbaaDoorWC
set_option linter.all false
set_option maxHeartbeats 4000000
namespace Go.Proofs.YtidoflgcblglbaaDoor
namespace Ab
open Go.Lib
set_option maxRecDepth 100000
set_option maxHeartbeats 4000000
set_option linter.all false
attribute [local simp] wp_region regionA opsA nCall rCall goCallR pCall pnCall lenA appendA appRow newsA rowsSz rowsOf isIntD makeSliceA elemOf rowsBuilt eqA eq1

theorem shown_nil : shown [] 0 0 = [] := rfl
theorem c_cloneI {K n nx : Nat} (hn : 1 ≤ n) (b : List Int) (hb : b.length ≤ 2 ^ 20) :
    callA cfg K n 39 [.vs false 1 (ints b)] [] nx = some (.rs (nx + 3) (if b = [] then 0 else 1) 0 b.length 1, [(nx + 3, (if b = [] then 0 else 1, .arr 1 (ints b)))], nx + 7) := by
  obtain ⟨n, rfl⟩ : ∃ m, n = m + 1 := ⟨n - 1, by omega⟩
  have d1 : b.length * 9 ≤ 68719476736 := by omega
  have : Sp K (n + 1) 39 [.vs false 1 (ints b)] [] nx fun r hp' nx' => r = .rs (nx + 3) (if b = [] then 0 else 1) 0 b.length 1 ∧ hp' = [(nx + 3, (if b = [] then 0 else 1, .arr 1 (ints b)))] ∧ nx' = nx + 7 := by
    refine sp_cps fun Q hQ => ?_
    refine sp_of rfl (run_wp Tryd.func39 rfl (by simp [Tryd.f39]) ?_)
    by_cases hb : b = []
    · subst hb
      simp [mostB, ints]
      exact hQ _ _ _ ⟨rfl, rfl, rfl⟩
    · have : ¬ b.length = 0 := by simpa using hb
      have h2 : ¬ ints b = [] := fun e => this (by rw [← ints_len b, e]; rfl)
      simp [mostB, this, d1, shown_nil, h2]
      refine hQ _ _ _ ⟨by simp [hb], by simp [hb], rfl⟩
  obtain ⟨r, hp', nx', h1, h2, h3, h4⟩ := this
  rw [h1, h2, h3, h4]
theorem c_cloneI0 {K n nx : Nat} (hn : 1 ≤ n) (z : Nat) : callA cfg K n 39 [.vs true z []] [] nx = some (.vs true 0 [], [], nx + 4) := by
  obtain ⟨n, rfl⟩ : ∃ m, n = m + 1 := ⟨n - 1, by omega⟩
  have : Sp K (n + 1) 39 [.vs true z []] [] nx fun r hp' nx' => r = .vs true 0 [] ∧ hp' = [] ∧ nx' = nx + 4 := by
    refine sp_cps fun Q hQ => ?_
    refine sp_of rfl (run_wp Tryd.func39 rfl (by simp [Tryd.f39]) ?_)
    simp
    exact hQ _ _ _ ⟨rfl, rfl, rfl⟩
  obtain ⟨r, hp', nx', h1, h2, h3, h4⟩ := this
  rw [h1, h2, h3, h4]
theorem c_cloneV {K n nx : Nat} (hn : 1 ≤ n) (b : List Val) (hb : b.length ≤ 2 ^ 20) :
    callA cfg K n 40 [.vs false 3 (valRows b)] [] nx = some (.rs (nx + 3) (if b = [] then 0 else 1) 0 b.length 3, [(nx + 3, (if b = [] then 0 else 1, .arr 3 (valRows b)))], nx + 7) := by
  obtain ⟨n, rfl⟩ : ∃ m, n = m + 1 := ⟨n - 1, by omega⟩
  have d1 : b.length * 33 ≤ 68719476736 := by omega
  have : Sp K (n + 1) 40 [.vs false 3 (valRows b)] [] nx fun r hp' nx' => r = .rs (nx + 3) (if b = [] then 0 else 1) 0 b.length 3 ∧ hp' = [(nx + 3, (if b = [] then 0 else 1, .arr 3 (valRows b)))] ∧ nx' = nx + 7 := by
    refine sp_cps fun Q hQ => ?_
    refine sp_of rfl (run_wp Tryd.func40 rfl (by simp [Tryd.f40]) ?_)
    by_cases hb : b = []
    · subst hb
      simp [mostB, valRows]
      exact hQ _ _ _ ⟨rfl, rfl, rfl⟩
    · have : ¬ b.length = 0 := by simpa using hb
      have h2 : ¬ valRows b = [] := fun e => this (by rw [← valRows_len b, e]; rfl)
      simp [mostB, this, d1, shown_nil, h2]
      refine hQ _ _ _ ⟨by simp [hb], by simp [hb], rfl⟩
  obtain ⟨r, hp', nx', h1, h2, h3, h4⟩ := this
  rw [h1, h2, h3, h4]
theorem c_cloneV0 {K n nx : Nat} (hn : 1 ≤ n) (z : Nat) : callA cfg K n 40 [.vs true z []] [] nx = some (.vs true 0 [], [], nx + 4) := by
  obtain ⟨n, rfl⟩ : ∃ m, n = m + 1 := ⟨n - 1, by omega⟩
  have : Sp K (n + 1) 40 [.vs true z []] [] nx fun r hp' nx' => r = .vs true 0 [] ∧ hp' = [] ∧ nx' = nx + 4 := by
    refine sp_cps fun Q hQ => ?_
    refine sp_of rfl (run_wp Tryd.func40 rfl (by simp [Tryd.f40]) ?_)
    simp
    exact hQ _ _ _ ⟨rfl, rfl, rfl⟩
  obtain ⟨r, hp', nx', h1, h2, h3, h4⟩ := this
  rw [h1, h2, h3, h4]

end Ab
end Go.Proofs.YtidoflgcblglbaaDoor

/-
  DERIVED. locksteplaw02.Own: values copied.
  Conditions: bounded lengths.
-/
namespace Go.Proofs.YtidoflgcblglbaaDoor
namespace Ab
open Go.Lib
set_option maxRecDepth 100000
set_option maxHeartbeats 4000000
set_option linter.all false
attribute [local simp] wp_region regionA opsA nCall rCall goCallR pCall pnCall lenA appendA appRow newsA rowsSz rowsOf isIntD makeSliceA elemOf rowsBuilt eqA eq1

theorem c_Own {K n nx : Nat} (hn : 1 ≤ n) (z : Bool) (b : List Val) (hz : z = true → b = []) (hb : b.length ≤ 2 ^ 20) :
    callA cfg K n 41 [.vs z 3 (valRows b)] [] nx = some (.rs (nx + 4) (if b = [] then 0 else 1) 0 b.length 3, [(nx + 4, (if b = [] then 0 else 1, .arr 3 (valRows b)))], nx + 8) := by
  obtain ⟨n, rfl⟩ : ∃ m, n = m + 1 := ⟨n - 1, by omega⟩
  have w1 : IntKind.i64.wrap ((b.length : Int) + 1) = (b.length : Int) + 1 := wrap_i64 (by omega) (by omega)
  have w2 : (0 : Int) ≤ (b.length : Int) + 1 := by omega
  have w3 : ((b.length : Int) + 1).toNat * 33 ≤ 68719476736 := by omega
  have d1 : b.length * 33 ≤ 68719476736 := by omega
  have : Sp K (n + 1) 41 [.vs z 3 (valRows b)] [] nx fun r hp' nx' => r = .rs (nx + 4) (if b = [] then 0 else 1) 0 b.length 3 ∧ hp' = [(nx + 4, (if b = [] then 0 else 1, .arr 3 (valRows b)))] ∧ nx' = nx + 8 := by
    refine sp_cps fun Q hQ => ?_
    refine sp_of rfl (run_wp Tryd.func41 rfl (by simp [Tryd.f41]) ?_)
    by_cases hb : b = []
    · subst hb
      cases z <;> simp [mostB, valRows, wrap1]
      all_goals exact hQ _ _ _ ⟨rfl, rfl, rfl⟩
    · have hl : ¬ b.length = 0 := by simpa using hb
      have h2 : ¬ valRows b = [] := fun e => hl (by rw [← valRows_len b, e]; rfl)
      have d2 : (b.length + 1) * 33 ≤ 68719476736 := by omega
      have hzf : z = false := by
        cases z with
        | false => rfl
        | true => exact absurd (hz rfl) hb
      subst hzf
      simp [mostB, hl, d1, d2, w1, w2, w3, shown_nil, h2]
      exact hQ _ _ _ ⟨by simp [hb], by simp [hb], rfl⟩
  obtain ⟨r, hp', nx', h1, h2, h3, h4⟩ := this
  rw [h1, h2, h3, h4]

end Ab
end Go.Proofs.YtidoflgcblglbaaDoor

/-
  DERIVED. locksteplaw26.Record: a record copied.
  Conditions: bounded lengths.
-/
namespace Go.Proofs.YtidoflgcblglbaaDoor
namespace Ab
open Go.Lib
set_option maxRecDepth 100000
set_option maxHeartbeats 4000000
set_option linter.all false
attribute [local simp] wp_region regionA opsA nCall rCall goCallR pCall pnCall lenA appendA appRow newsA rowsSz rowsOf isIntD makeSliceA elemOf rowsBuilt eqA eq1

/-- A record whose lists lie on the heap. -/
def recHeap (a ga b gb : Nat) (r : Rec) : List AV := [.i .u64 (r.id : Nat), .i .u64 (r.client : Nat), .i .u64 (r.seq : Nat), .rs a ga 0 r.parts.length 1, .s r.proc, .rs b gb 0 r.args.length 3]
theorem c_Record {K n nx : Nat} (hn : 2 ≤ n) (zp za : Bool) (r : Rec) (hzp : zp = true → r.parts = []) (hza : za = true → r.args = []) (hB : RecB r) :
    callA cfg K n 18 [.agg (recCells zp za r)] [] nx = some (.agg (recHeap (nx + 6) (if r.parts = [] then 0 else 1) (nx + 21) (if r.args = [] then 0 else 1) r), [(nx + 6, (if r.parts = [] then 0 else 1, .arr 1 (ints r.parts))), (nx + 21, (if r.args = [] then 0 else 1, .arr 3 (valRows r.args)))], nx + 27) := by
  obtain ⟨n, rfl⟩ : ∃ m, n = m + 1 := ⟨n - 1, by omega⟩
  have hpl := hB.parts
  have hal := hB.args
  have hown := fun N => c_Own (K := K) (n := n) (nx := N) (by omega) za r.args hza hal
  have w1 : IntKind.i64.wrap ((r.parts.length : Int) + 1) = (r.parts.length : Int) + 1 := wrap_i64 (by omega) (by omega)
  have w2 : (0 : Int) ≤ (r.parts.length : Int) + 1 := by omega
  have d1 : r.parts.length * 9 ≤ 68719476736 := by omega
  have d2 : (r.parts.length + 1) * 9 ≤ 68719476736 := by omega
  have hnv : (valRows r.args).all (fun r => r.all nov1) = true := by simp [valRows, Val.row, nov1]
  have : Sp K (n + 1) 18 [.agg (recCells zp za r)] [] nx fun v hp' nx' => v = .agg (recHeap (nx + 6) (if r.parts = [] then 0 else 1) (nx + 21) (if r.args = [] then 0 else 1) r) ∧ hp' = [(nx + 6, (if r.parts = [] then 0 else 1, .arr 1 (ints r.parts))), (nx + 21, (if r.args = [] then 0 else 1, .arr 3 (valRows r.args)))] ∧ nx' = nx + 27 := by
   refine sp_cps fun Q hQ => ?_
   refine sp_of rfl (run_wp Tryd.func18 rfl (by simp [Tryd.f18]) ?_)
   by_cases hp : r.parts = []
   · have e0 : ints r.parts = [] := by rw [hp]; rfl
     have l0 : r.parts.length = 0 := by rw [hp]; rfl
     cases zp <;> simp [recCells, mostB, e0, l0, wrap1, hown, hnv, novO]
     all_goals refine ⟨⟨by kernel_rfl, by simp [dynOk, pairsOk, befOf, Region.binds, Eff.apart, Eff.clear, Eff.wkeys, Ref.key, AV.refs0, List.range, List.range.loop, sameAt]⟩, ?_⟩
     all_goals exact hQ _ _ _ ⟨by simp [recHeap, hp], by simp [hp, ints], rfl⟩
   · have hl : ¬ r.parts.length = 0 := by simpa using hp
     have h2 : ¬ ints r.parts = [] := fun e => hl (by rw [← ints_len r.parts, e]; rfl)
     have hzf : zp = false := by
       cases zp with
       | false => rfl
       | true => exact absurd (hzp rfl) hp
     subst hzf
     simp [recCells, mostB, hl, d1, d2, w1, w2, shown_nil, h2, hown, hnv, novO]
     refine ⟨⟨by kernel_rfl, by simp [dynOk, pairsOk, befOf, Region.binds, Eff.apart, Eff.clear, Eff.wkeys, Ref.key, AV.refs0, List.range, List.range.loop, sameAt]⟩, ?_⟩
     exact hQ _ _ _ ⟨by simp [recHeap, hp], by simp [hp], rfl⟩
  obtain ⟨v, hp', nx', h1, h2, h3, h4⟩ := this
  rw [h1, h2, h3, h4]

end Ab
end Go.Proofs.YtidoflgcblglbaaDoor
