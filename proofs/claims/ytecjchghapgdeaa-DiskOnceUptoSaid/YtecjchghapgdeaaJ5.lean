/-
  DERIVED. One call on both disks of a pair: Append, Crash, what is read.
  Conditions: enough rounds, enough depth; a disk of bounded size.
-/
import Derived.Test.YtecjchghapgdeaaJ2
import Derived.Test.YtecjchghapgdeaaJ1
set_option linter.all false
set_option maxHeartbeats 4000000
namespace Go.Proofs.Ytecjchghapgdeaa
namespace Ab
set_option maxRecDepth 100000
set_option maxHeartbeats 8000000
set_option linter.all false
attribute [local simp] wp_regW opsW_nil opsW_cons opsK_eq regK_no regK_draw oW_n oW_h oW_r oW_pn convA appendA appRow newsA rowsSz rowsOf isIntD makeSliceA elemOf rowsBuilt eqA eq1

theorem c_Does1 {K n m : Nat} (hK : big K) (hn : 5 ≤ n) {d : Dk} {hp : Hp} {nx x : Nat} {S : Nat → Prop} (hI : d.Inv m) (hm : m ≤ 2 ^ 20) (h : Pr hp nx x d S) (a : ActD) (ha : a.ok) (zb zk : Bool) (hzb : zb = true → a.b = []) (hbl : a.b.length ≤ 2 ^ 25) (hk : a.kind = 1) :
    Sp K n 27 [.ptr x 0 0, .agg (actV a zb zk)] hp nx (DoesQ hp nx x S (d.append a.name a.b).2) := by
  refine sp_cps fun Q hQ => ?_
  obtain ⟨n, rfl⟩ : ∃ m, n = m + 1 := ⟨n - 1, by omega⟩
  obtain ⟨p, q, Sp, Sq, h, hS⟩ := h
  have hn4 : 4 ≤ n := by omega
  refine sp_of rfl (run_wp Try.func27 rfl (by simp [Try.f27]) ?_)
  have hc := h.cell
  have hx := h.xlt
  have e0 := fun N => c_own (K := K) (n := n) (nx := N) (by omega) zb a.b hzb ha.2.2.1
  obtain ⟨g, hg⟩ : ∃ g, g = if a.b = [] then 0 else 1 := ⟨_, rfl⟩
  rw [← hg] at e0
  have fx : ∀ c, ¬ x = nx + c := fun c => by omega
  have fx' : ∀ c, ¬ nx + c = x := fun c => by omega
  simp [actV, hk, hc, e0, lk_set, Nat.add_assoc, fx, fx']
  have f0 : ∀ j, j < nx → lk (up hp (nx + 16) (g, .arr 1 (byteRows a.b))) j = lk hp j := low_up low_refl (by omega)
  have hnS : ¬ Sp (nx + 16) := fun e => by have := h.prep.lt _ e; omega
  have hbr : ∀ r ∈ byteRows a.b, r.length = 1 := fun r hr => by simp [byteRows] at hr; obtain ⟨_, _, rfl⟩ := hr; rfl
  refine (c_pAppend hK hn4 hI (h.low (by omega) f0).prep a.name a.b _ (.inr ⟨nx + 16, g, rfl, by simp [lk_set], hnS, by omega⟩) ha.2.2.1).cW ?_
  rintro _ hp1 n1 ⟨rfl, h1, f1⟩
  have hle := f1.le
  have hx1 : lk hp1 x = some (0, .cells [.ptr p 0 0, .ptr q 0 0]) := by rw [f1.out x (by omega) h.xp, f0 x h.xlt, hc]
  have hb1 : lk hp1 (nx + 16) = some (g, .arr 1 (byteRows a.b)) := by rw [f1.out (nx + 16) (by omega) hnS]; simp [lk_set]
  simp
  refine ⟨⟨by kernel_rfl, by simp [dynOk, pairsOk, befOf, Region.binds, Eff.apart, Eff.clear, Eff.wkeys, Ref.key, AV.refs0, List.range, List.range.loop, sameAt, lk_set, fx, fx', hc, hx1]⟩, ?_⟩
  refine (c_spoil hK (by omega) (by omega) hb1 (by simp) hbl hbr).cW ?_
  rintro _ hp2 n2 ⟨g2, f2⟩
  have f2' : ∀ j, (j < nx ∨ (nx + 29 ≤ j ∧ j < n1)) → lk hp2 j = lk hp1 j := fun j hj => f2 j (by omega) (by omega)
  have hA := h.mid (by omega) f0 h1 f1 (by omega : n1 ≤ n2) f2'
  simp [hA.cell]
  refine (c_dAppend hK (by omega) hI (by omega) (hA.add (by omega)).drep a.name ha.1 zb a.b hzb ha.2.2.1).cW ?_
  rintro _ hp3 n3 ⟨rfl, e2⟩
  simp
  refine ⟨⟨by kernel_rfl, by simp [dynOk, pairsOk, befOf, Region.binds, Eff.apart, Eff.clear, Eff.wkeys, Ref.key, AV.refs0, List.range, List.range.loop, sameAt, lk_set, fx, fx', hc, hA.cell]⟩, ?_⟩
  refine hQ _ _ _ ⟨rfl, ?_⟩
  refine h.both hS (by omega) f0 h1 f1 ?_ f2' e2 ?_ <;> omega

theorem c_Does7 {K n m : Nat} (hK : big K) (hn : 5 ≤ n) {d : Dk} {hp : Hp} {nx x : Nat} {S : Nat → Prop} (hI : d.Inv m) (hm : m ≤ 2 ^ 20) (h : Pr hp nx x d S) (a : ActD) (ha : a.ok) (zb zk : Bool) (hzk : zk = true → a.keeps = []) (hk : a.kind = 7) :
    Sp K n 27 [.ptr x 0 0, .agg (actV a zb zk)] hp nx (DoesQ hp nx x S (d.crash a.keeps a.n)) := by
  refine sp_cps fun Q hQ => ?_
  obtain ⟨n, rfl⟩ : ∃ m, n = m + 1 := ⟨n - 1, by omega⟩
  obtain ⟨p, q, Sp, Sq, h, hS⟩ := h
  have hn4 : 4 ≤ n := by omega
  refine sp_of rfl (run_wp Try.func27 rfl (by simp [Try.f27]) ?_)
  have hc := h.cell
  have hx := h.xlt
  have fx : ∀ c, ¬ x = nx + c := fun c => by omega
  have fx' : ∀ c, ¬ nx + c = x := fun c => by omega
  obtain ⟨kind, name, to, b, N0, keeps⟩ := a
  simp only at hk hzk
  subst hk
  have hkl : keeps.length ≤ 2 ^ 30 := ha.2.2.2.1
  have hd0 : keeps.length * 9 ≤ 68719476736 := by omega
  by_cases hk0 : keeps = []
  · subst hk0
    have e0 : intRows [] = [] := rfl
    cases zk
    · simp [actV, hc, lk_set, Nat.add_assoc, fx, fx', e0, mostB]
      have f0 : ∀ j, j < nx → lk (up hp (nx + 26) (0, .arr 1 (intRows []))) j = lk hp j := low_up low_refl (by omega)
      have hnS : ¬ Sp (nx + 26) := fun e => by have := h.prep.lt _ e; omega
      refine (c_pCrash hK (by omega) hI (by omega) (h.low (by omega) f0).prep _ [] (.inr ⟨nx + 26, 0, rfl, by simp [lk_set], hnS, by omega⟩) hkl N0).cW ?_
      rintro _ hp1 n1 ⟨h1, f1⟩
      have hle := f1.le
      have hx1 : lk hp1 x = some (0, .cells [.ptr p 0 0, .ptr q 0 0]) := by rw [f1.out x (by omega) h.xp, f0 x h.xlt, hc]
      have hA := h.mid (by omega) f0 h1 f1 (Nat.le_refl _) (fun _ _ => rfl)
      simp [hA.cell]
      refine ⟨⟨by kernel_rfl, by simp [dynOk, pairsOk, befOf, Region.binds, Eff.apart, Eff.clear, Eff.wkeys, Ref.key, AV.refs0, List.range, List.range.loop, sameAt, lk_set, fx, fx', hc, hx1]⟩, ?_⟩
      refine (c_dCrash hK (by omega) hI (by omega) (hA.add (by omega)).drep false [] hzk hkl N0).cW ?_
      rintro _ hp3 n3 e2
      simp
      refine ⟨⟨by kernel_rfl, by simp [dynOk, pairsOk, befOf, Region.binds, Eff.apart, Eff.clear, Eff.wkeys, Ref.key, AV.refs0, List.range, List.range.loop, sameAt, lk_set, fx, fx', hc, hA.cell]⟩, ?_⟩
      refine hQ _ _ _ ⟨rfl, ?_⟩
      refine h.both hS (by omega) f0 h1 f1 ?_ (fun _ _ => rfl) e2 ?_ <;> omega
    · simp [actV, hc, lk_set, Nat.add_assoc, fx, fx', e0, mostB]
      have f0 : ∀ j, j < nx → lk (up hp (nx + 26) (0, .arr 1 (intRows []))) j = lk hp j := low_up low_refl (by omega)
      have hnS : ¬ Sp (nx + 26) := fun e => by have := h.prep.lt _ e; omega
      refine (c_pCrash hK (by omega) hI (by omega) (h.low (by omega) f0).prep _ [] (.inr ⟨nx + 26, 0, rfl, by simp [lk_set], hnS, by omega⟩) hkl N0).cW ?_
      rintro _ hp1 n1 ⟨h1, f1⟩
      have hle := f1.le
      have hx1 : lk hp1 x = some (0, .cells [.ptr p 0 0, .ptr q 0 0]) := by rw [f1.out x (by omega) h.xp, f0 x h.xlt, hc]
      have hA := h.mid (by omega) f0 h1 f1 (Nat.le_refl _) (fun _ _ => rfl)
      simp [hA.cell]
      refine ⟨⟨by kernel_rfl, by simp [dynOk, pairsOk, befOf, Region.binds, Eff.apart, Eff.clear, Eff.wkeys, Ref.key, AV.refs0, List.range, List.range.loop, sameAt, lk_set, fx, fx', hc, hx1]⟩, ?_⟩
      refine (c_dCrash hK (by omega) hI (by omega) (hA.add (by omega)).drep true [] hzk hkl N0).cW ?_
      rintro _ hp3 n3 e2
      simp
      refine ⟨⟨by kernel_rfl, by simp [dynOk, pairsOk, befOf, Region.binds, Eff.apart, Eff.clear, Eff.wkeys, Ref.key, AV.refs0, List.range, List.range.loop, sameAt, lk_set, fx, fx', hc, hA.cell]⟩, ?_⟩
      refine hQ _ _ _ ⟨rfl, ?_⟩
      refine h.both hS (by omega) f0 h1 f1 ?_ (fun _ _ => rfl) e2 ?_ <;> omega
  · have hzf : zk = false := by
      cases zk with
      | false => rfl
      | true => exact absurd (hzk rfl) hk0
    subst hzf
    have hk2 : intRows keeps ≠ [] := fun e => hk0 (by simpa [intRows] using e)
    simp [actV, hc, lk_set, Nat.add_assoc, fx, fx', hk0, hk2, mostB, hd0, up_up, shown_nil]
    have f0 : ∀ j, j < nx → lk (up hp (nx + 26) (1, .arr 1 (intRows keeps))) j = lk hp j := low_up low_refl (by omega)
    have hnS : ¬ Sp (nx + 26) := fun e => by have := h.prep.lt _ e; omega
    refine (c_pCrash hK (by omega) hI (by omega) (h.low (by omega) f0).prep _ keeps (.inr ⟨nx + 26, 1, rfl, by simp [lk_set], hnS, by omega⟩) hkl N0).cW ?_
    rintro _ hp1 n1 ⟨h1, f1⟩
    have hle := f1.le
    have hx1 : lk hp1 x = some (0, .cells [.ptr p 0 0, .ptr q 0 0]) := by rw [f1.out x (by omega) h.xp, f0 x h.xlt, hc]
    have hA := h.mid (by omega) f0 h1 f1 (Nat.le_refl _) (fun _ _ => rfl)
    simp [hA.cell]
    refine ⟨⟨by kernel_rfl, by simp [dynOk, pairsOk, befOf, Region.binds, Eff.apart, Eff.clear, Eff.wkeys, Ref.key, AV.refs0, List.range, List.range.loop, sameAt, lk_set, fx, fx', hc, hx1]⟩, ?_⟩
    refine (c_dCrash hK (by omega) hI (by omega) (hA.add (by omega)).drep false keeps hzk hkl N0).cW ?_
    rintro _ hp3 n3 e2
    simp
    refine ⟨⟨by kernel_rfl, by simp [dynOk, pairsOk, befOf, Region.binds, Eff.apart, Eff.clear, Eff.wkeys, Ref.key, AV.refs0, List.range, List.range.loop, sameAt, lk_set, fx, fx', hc, hA.cell]⟩, ?_⟩
    refine hQ _ _ _ ⟨rfl, ?_⟩
    refine h.both hS (by omega) f0 h1 f1 ?_ (fun _ _ => rfl) e2 ?_ <;> omega

end Ab
end Go.Proofs.Ytecjchghapgdeaa
