/-
  DERIVED. The document's disk: Used, left, with, changes, set.
  Conditions: enough rounds, enough depth; a disk of bounded size.
-/
import Derived.Test.YtecjchghapgdeaaF2
set_option linter.all false
set_option maxHeartbeats 4000000
namespace Go.Proofs.Ytecjchghapgdeaa
namespace Ab
set_option maxRecDepth 100000
set_option maxHeartbeats 8000000
set_option linter.all false
attribute [local simp] wp_region regionA opsA nCall rCall goCallR pCall pnCall lenA appendA appRow newsA rowsSz rowsOf isIntD makeSliceA elemOf rowsBuilt eqA eq1

theorem c_dleft {K n : Nat} (hn : 1 ≤ n) (x : Int) (m : Nat) (hm : 0 < m) (hm2 : m ≤ 2 ^ 40) : pR (callA cfg K n) 60 [.i .i64 x, .i .i64 (m : Nat)] = some (.i .i64 (leftN x m : Nat)) := by
  obtain ⟨n, rfl⟩ : ∃ m, n = m + 1 := ⟨n - 1, by omega⟩
  refine pr_of rfl ?_ rfl
  refine run_wp Try.func60 rfl (by simp [Try.f60]) ?_
  by_cases h1 : x < 0
  · have : leftN x m = 0 := by unfold leftN; rw [Int.max_eq_right (by omega)]; simp
    simp [h1, this]
  · have e1 := leftN_int x m
    rw [if_neg (by omega)] at e1
    have hl := leftN_lt x hm
    have hne : ¬ m = 0 := by omega
    have w1 : IntKind.i64.wrap ((leftN x m : Nat) : Int) = (leftN x m : Nat) := wrap_i64 (by omega) (by omega)
    simp [h1, e1, w1, hne]

theorem fi_at {hp : Hp} {S : Nat → Prop} {b : AV} {w : Way} (h : SV 1 hp S b (fiRows w)) {i : Nat} {e : Bs × Nat} (he : w[i]? = some e) :
    ∃ kb g i0 all, b = .rs kb g i0 w.length 1 ∧ lk hp kb = some (g, .arr 1 all) ∧ all[i0 + i]? = some [.i .i64 (e.2 : Nat)] ∧ S kb ∧ i0 + w.length ≤ all.length := by
  obtain ⟨kb, g, i0, all, h1, h2, h3, h4, h5, _⟩ := h.at (i := i) (r := [.i .i64 (e.2 : Nat)]) (by simp [fiRows, he])
  exact ⟨kb, g, i0, all, by simpa using h1, h2, h3, h4, by simpa using h5⟩
theorem nm_at {hp : Hp} {S : Nat → Prop} {b : AV} {w : Way} (h : SV 1 hp S b (nameRows w)) {i : Nat} {e : Bs × Nat} (he : w[i]? = some e) :
    ∃ kb g i0 all, b = .rs kb g i0 w.length 1 ∧ lk hp kb = some (g, .arr 1 all) ∧ all[i0 + i]? = some [.s (ba e.1)] ∧ S kb ∧ i0 + w.length ≤ all.length := by
  obtain ⟨kb, g, i0, all, h1, h2, h3, h4, h5, _⟩ := h.at (i := i) (r := [.s (ba e.1)]) (by simp [nameRows, he])
  exact ⟨kb, g, i0, all, by simpa using h1, h2, h3, h4, by simpa using h5⟩
/-- A file's row. -/
theorem file_at {N : Nat} {hp : Hp} {k : Nat} {fv wv : AV} {fr wr : List (List AV)} {d : Dk} {S : Nat → Prop} (h : DDk hp k fv wv fr wr d S) {i : Nat} (hi : i < d.files.length) :
    ∃ kf g i0 all v, fv = .rs kf g i0 d.files.length 2 ∧ lk hp kf = some (g, .arr 2 all) ∧ all[i0 + i]? = some [v, .i .i64 ((d.file i).fast : Nat)] ∧ SV 1 hp S v (byteRows (d.file i).b) ∧ S kf ∧ i0 + d.files.length ≤ all.length := by
  have hx : d.files[i]? = some (d.file i) := by simp [Dk.file, List.getElem?_eq_getElem hi]
  obtain ⟨r, h1, v, rfl, h2⟩ := h.fr.get hx
  obtain ⟨kf, g, i0, all, e1, e2, e3, e4, e5, _⟩ := h.files.at h1
  rw [h.fr.1] at e1 e5
  exact ⟨kf, g, i0, all, v, e1, e2, e3, h2, e4, e5⟩
/-- The length of a slice. -/
theorem SV.len {sz : Nat} {hp : Hp} {S : Nat → Prop} {v : AV} {rows : List (List AV)} (h : SV sz hp S v rows) : slLen v = some rows.length := by
  rcases h with ⟨rfl, z, rfl⟩ | ⟨a, g, i0, all, rfl, _⟩ <;> rfl

theorem c_dUsed {K n N : Nat} (hK : big K) (hn : 2 ≤ n) {d : Dk} {k : Nat} {fv wv : AV} {fr wr : List (List AV)} {hp : Hp} {nx : Nat} {S : Nat → Prop} (hI : d.Inv N) (hN : N ≤ 2 ^ 21) (h : DDk hp k fv wv fr wr d S) :
    Sp K n 56 [.ptr k 0 0] hp nx fun r hp' nx' => r = .i .i64 (d.used : Nat) ∧ hp' = hp ∧ nx ≤ nx' := by
  refine sp_cps fun Q hQ => ?_
  obtain ⟨n, rfl⟩ : ∃ m, n = m + 1 := ⟨n - 1, by omega⟩
  obtain ⟨a, b, nf, h2, h3, hnow⟩ := f_dnow (K := K) (n := n) (by omega) hI hN h
  have e1 := fun nx => (hnow nx).1
  have hg := h.top
  have hnl := hI.nowlen
  have hu := hI.used
  refine sp_of rfl (run_wp Try.func56 rfl (by simp [Try.f56]) ?_)
  simp [e1, h2.okc, h3.okc]
  have gx := (hnow (nx + 1 + 1 + 4)).2
  refine loop_wp (ι := Nat × Nat × Nat) (fun i => { env := [(0, .ptr k 0 0), (3, .i .i64 (i.2.1 : Nat)), (4, .lp 4 (nx + 4) 0), (5, .i .i64 (i.1 : Nat))], loc := [(4, nx + 4, .cells [a, b])], hp := hp, nx := i.2.2 }) (fun i => d.now.length - i.1)
    (fun i => i.1 ≤ d.now.length ∧ nx ≤ i.2.2 ∧ i.2.1 + ((d.now.drop i.1).map fun e => (d.file e.2).b.length).sum = d.used) (0, 0, _) rfl ⟨Nat.zero_le _, by simp only; omega, by simp [Dk.used]⟩ (by simp; unfold big at hK; omega) ?_
  rintro Next ⟨i, acc, nx'⟩ ⟨hi, hx, hs⟩ hnext
  simp only at hi hx hs hnext ⊢
  have hbl : slLen b = some d.now.length := by simpa using h3.len
  by_cases hlt : i < d.now.length
  · have c1 : (i : Int) < d.now.length := by omega
    have c3 : IntKind.i64.wrap ((i : Int) + 1) = ((i + 1 : Nat) : Int) := by rw [wrap_i64 (by omega) (by omega)]; omega
    obtain ⟨e, he⟩ : ∃ e, d.now[i]? = some e := ⟨d.now[i], List.getElem?_eq_getElem hlt⟩
    have hd : d.now.drop i = e :: d.now.drop (i + 1) := by
      rw [List.drop_eq_getElem_cons hlt]
      rw [List.getElem?_eq_getElem hlt] at he
      cases he; rfl
    obtain ⟨kb, g, i0, all, rfl, l1, l2, _, _⟩ := fi_at h3 he
    have hfi := ((hI.way _ hI.now).2.2 e (List.mem_of_getElem? he)).1
    obtain ⟨kf, gf, i0f, allf, v, rfl, l3, l4, hv, _, _⟩ := file_at (N := N) h hfi
    have cf : ((e.2 : Nat) : Int) < (d.files.length : Nat) := by omega
    rw [hd, List.map_cons, List.sum_cons] at hs
    have hfl := (hI.filelen (i := e.2)).1
    have w4 : IntKind.i64.wrap ((acc : Int) + ((d.file e.2).b.length : Nat)) = ((acc + (d.file e.2).b.length : Nat) : Int) := by rw [wrap_i64 (by omega) (by omega)]; omega
    rcases hv with ⟨hv1, zv, rfl⟩ | ⟨kv, gv, i0v, allv, rfl, l5, _⟩
    · have hb0 : (d.file e.2).b = [] := by simpa [byteRows] using hv1
      rw [hb0] at w4
      simp at w4
      simp [c1, hg, l1, l2, l3, l4, cf, c3, w4]
      refine ⟨⟨by kernel_rfl, by simp [dynOk, pairsOk, befOf, Region.binds, Eff.apart, Eff.clear, Eff.wkeys, Ref.key, AV.refs0, List.range, List.range.loop]⟩, ?_⟩
      exact hnext (i + 1, acc, _) (by simp only; omega) ⟨hlt, by simp only; omega, by rw [hb0] at hs; simpa using hs⟩
    · simp [c1, hg, l1, l2, l3, l4, cf, c3, w4]
      refine ⟨⟨by kernel_rfl, by simp [dynOk, pairsOk, befOf, Region.binds, Eff.apart, Eff.clear, Eff.wkeys, Ref.key, AV.refs0, List.range, List.range.loop]⟩, ?_⟩
      exact hnext (i + 1, acc + (d.file e.2).b.length, _) (by simp only; omega) ⟨hlt, by simp only; omega, by simp only; omega⟩
  · obtain rfl : i = d.now.length := by omega
    simp only [List.drop_length, List.map_nil, List.sum_nil, Nat.add_zero] at hs
    rcases h3 with ⟨hv1, zv, rfl⟩ | ⟨kv, gv, i0v, allv, rfl, l5, _⟩
    · have hb0 : d.now = [] := by simpa [fiRows] using hv1
      rw [hb0]
      simp
      refine hQ _ _ _ ?_
      exact ⟨by rw [← hs], rfl, by omega⟩
    · simp
      refine hQ _ _ _ ?_
      exact ⟨by rw [← hs], rfl, by omega⟩

theorem f_dUsed {K n N : Nat} (hK : big K) (hn : 2 ≤ n) {d : Dk} {k : Nat} {fv wv : AV} {fr wr : List (List AV)} {hp : Hp} {S : Nat → Prop} (hI : d.Inv N) (hN : N ≤ 2 ^ 21) (h : DDk hp k fv wv fr wr d S) :
    ∃ nf : Nat → Nat, ∀ nx, callA cfg K n 56 [.ptr k 0 0] hp nx = some (.i .i64 (d.used : Nat), hp, nf nx) ∧ nx ≤ nf nx := by
  refine ⟨fun nx => ((callA cfg K n 56 [.ptr k 0 0] hp nx).getD (.undef, [], 0)).2.2, fun nx => ?_⟩
  obtain ⟨r, hp', nx', e1, rfl, rfl, e3⟩ := c_dUsed (K := K) (nx := nx) hK hn hI hN h
  simp [e1, e3]

end Ab
end Go.Proofs.Ytecjchghapgdeaa
