/-
  DERIVED. The document's disk: changes, set.
  Conditions: enough rounds, enough depth; a disk of bounded size.
-/
import Derived.Test.YtecjchghapgdeaaF3
set_option linter.all false
set_option maxHeartbeats 4000000
namespace Go.Proofs.Ytecjchghapgdeaa
namespace Ab
set_option maxRecDepth 100000
set_option maxHeartbeats 8000000
set_option linter.all false
attribute [local simp] wp_region regionA opsA nCall rCall goCallR pCall pnCall lenA appendA appRow newsA rowsSz rowsOf isIntD makeSliceA elemOf rowsBuilt eqA eq1

theorem c_dchanges {K n : Nat} (hn : 1 ≤ n) (k : Nat) (q fv wv l dd a b : AV) (wr : List (List AV)) (hp : Hp) (nx : Nat) (S : Nat → Prop) (hS : ∀ j, S j → j < nx) (hg : lk hp k = some (0, .cells [q, fv, wv, l, dd])) (kS : S k)
    (hw : SV 2 hp S wv wr) (hne : wr ≠ []) (hl : wr.length ≤ 2 ^ 22) (ha : a.okc = true) (hb : b.okc = true) (ha' : a.mv = true) (hb' : b.mv = true) :
    Sp K n 69 [.ptr k 0 0, .agg [a, b]] hp nx fun _ hp' nx' => ∃ wv', nx ≤ nx' ∧ lk hp' k = some (0, .cells [q, fv, wv', l, dd]) ∧ SV 2 hp' (fun j => nx ≤ j ∧ j < nx') wv' (wr ++ [[a, b]]) ∧ ∀ j, j < nx → j ≠ k → lk hp' j = lk hp j := by
  refine sp_cps fun Q hQ => ?_
  obtain ⟨n, rfl⟩ : ∃ m, n = m + 1 := ⟨n - 1, by omega⟩
  have k1 := hS k kS
  have f1 : ∀ c, ¬ k = nx + c := fun c => by omega
  have f3 : ∀ c, ¬ nx + c = k := fun c => by omega
  rcases hw with ⟨h1, _⟩ | ⟨kw, g, i0, all, rfl, h2, h3, h4, h5⟩
  · exact absurd h1 hne
  have kw1 := hS kw h5
  have g1 : kw ≠ k := ne_of_lk h2 hg (by simp)
  have f5 : ∀ c, ¬ kw = nx + c := fun c => by omega
  have f6 : ∀ c, ¬ nx + c = kw := fun c => by omega
  refine sp_of rfl (run_wp Try.func69 rfl (by simp [Try.f69]) ?_)
  have d0 : wr.length * 49 ≤ 68719476736 := by omega
  have d1 : (wr.length + 1) * 49 ≤ 68719476736 := by omega
  have d2 : shown wr 0 wr.length = wr := shown_all rfl
  simp [hg, f1, f3, f5, f6, g1, g1.symm, h2, h3, h4, mostB, lk_set, Nat.add_assoc, ha, hb, ha', hb', hne, d0, d1, d2, shown_nil]
  refine ⟨⟨by kernel_rfl, ?_⟩, ?_⟩
  · simp [dynOk, pairsOk, befOf, Region.binds, Eff.apart, Eff.clear, Eff.wkeys, Ref.key, AV.refs0, List.range, List.range.loop, f1, f3, f5, f6, g1, g1.symm]
  · refine hQ _ _ _ ?_
    refine ⟨.rs (nx + 2) 2 0 (wr.length + 1) 2, by omega, by simp [lk_set, f1, f3], .inr ⟨nx + 2, 2, 0, wr ++ [[a, b]], by simp, by simp [lk_set, f1, f3], by rw [List.drop_zero]; exact List.take_of_length_le (by simp), by simp, by omega, by omega⟩, fun j hj h1 => ?_⟩
    have e1 : ∀ c, ¬ j = nx + c := fun c => by omega
    simp [lk_set, h1, e1]

theorem c_dset {K n : Nat} (hn : 1 ≤ n) (k : Nat) (q fv wv l dd v : AV) (x : Int) (fr : List (List AV)) (i : Nat) (hp : Hp) (nx : Nat) (S : Nat → Prop) (hS : ∀ j, S j → j < nx) (hg : lk hp k = some (0, .cells [q, fv, wv, l, dd])) (kS : S k)
    (hw : SV 2 hp S fv fr) (hi : i < fr.length) (hr : ∀ r ∈ fr, r.length = 2) (hl : fr.length ≤ 2 ^ 22) (hv : v.okc = true) (hv' : v.mv = true) :
    Sp K n 61 [.ptr k 0 0, .i .i64 (i : Nat), .agg [v, .i .i64 x]] hp nx fun _ hp' nx' => ∃ fv', nx ≤ nx' ∧ lk hp' k = some (0, .cells [q, fv', wv, l, dd]) ∧ SV 2 hp' (fun j => nx ≤ j ∧ j < nx') fv' (fr.set i [v, .i .i64 x]) ∧ ∀ j, j < nx → j ≠ k → lk hp' j = lk hp j := by
  refine sp_cps fun Q hQ => ?_
  obtain ⟨n, rfl⟩ : ∃ m, n = m + 1 := ⟨n - 1, by omega⟩
  have k1 := hS k kS
  have f1 : ∀ c, ¬ k = nx + c := fun c => by omega
  have f3 : ∀ c, ¬ nx + c = k := fun c => by omega
  rcases hw with ⟨h1, _⟩ | ⟨kw, g, i0, all, rfl, h2, h3, h4, h5⟩
  · subst h1; simp at hi
  have kw1 := hS kw h5
  have g1 : kw ≠ k := ne_of_lk h2 hg (by simp)
  have f5 : ∀ c, ¬ kw = nx + c := fun c => by omega
  have f6 : ∀ c, ¬ nx + c = kw := fun c => by omega
  have hne : fr ≠ [] := by rintro rfl; simp at hi
  refine sp_of rfl (run_wp Try.func61 rfl (by simp [Try.f61]) ?_)
  have d0 : fr.length * 33 ≤ 68719476736 := by omega
  have c1 : (i : Int) < fr.length := by omega
  obtain ⟨r, hx⟩ : ∃ r, fr[i]? = some r := ⟨fr[i], List.getElem?_eq_getElem hi⟩
  have hrl := hr r (List.mem_of_getElem? hx)
  obtain ⟨r0, r1, rfl⟩ : ∃ a b, r = [a, b] := by
    match r, hrl with
    | [a, b], _ => exact ⟨a, b, rfl⟩
  simp [hg, f1, f3, f5, f6, g1, g1.symm, h2, h3, h4, mostB, lk_set, Nat.add_assoc, hv, hv', hne, d0, shown_nil, c1, hx]
  refine ⟨⟨by kernel_rfl, ?_⟩, ?_⟩
  · simp [dynOk, pairsOk, befOf, Region.binds, Eff.apart, Eff.clear, Eff.wkeys, Ref.key, AV.refs0, List.range, List.range.loop, f1, f3, f5, f6, g1, g1.symm]
  · refine hQ _ _ _ ?_
    refine ⟨.rs (nx + 2) 1 0 fr.length 2, by omega, by simp [lk_set, f1, f3], .inr ⟨nx + 2, 1, 0, fr.set i [v, .i .i64 x], by simp, by simp [lk_set, f1, f3], by rw [List.drop_zero]; exact List.take_of_length_le (by simp), by simp, by omega, by omega⟩, fun j hj h1 => ?_⟩
    have e1 : ∀ c, ¬ j = nx + c := fun c => by omega
    simp [lk_set, h1, e1]

end Ab
end Go.Proofs.Ytecjchghapgdeaa
