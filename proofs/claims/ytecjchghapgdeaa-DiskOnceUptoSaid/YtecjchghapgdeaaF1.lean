/-
  DERIVED. The document's disk on the heap: files, ways; now, stops, changes, set, Name, find, at.
  Conditions: enough rounds, enough depth; a disk of bounded size.
-/
import Derived.Test.YtecjchghapgdeaaD15
set_option linter.all false
set_option maxHeartbeats 4000000
namespace Go.Proofs.Ytecjchghapgdeaa
namespace Ab
set_option maxRecDepth 100000
set_option maxHeartbeats 8000000
set_option linter.all false
attribute [local simp] wp_region regionA opsA nCall rCall goCallR pCall pnCall lenA appendA appRow newsA rowsSz rowsOf isIntD makeSliceA elemOf rowsBuilt eqA eq1

def fiRows (w : Way) : List (List AV) := w.map fun e => [.i .i64 (e.2 : Nat)]
@[simp] theorem fiRows_len (w : Way) : (fiRows w).length = w.length := by simp [fiRows]
def WR (hp : Hp) (S : Nat → Prop) (r : List AV) (w : Way) : Prop := ∃ a b, r = [a, b] ∧ SV 1 hp S a (nameRows w) ∧ SV 1 hp S b (fiRows w)
def FR (hp : Hp) (S : Nat → Prop) (r : List AV) (f : Fl) : Prop := ∃ v, r = [v, .i .i64 (f.fast : Nat)] ∧ SV 1 hp S v (byteRows f.b)
def Rel2 {α : Type} (P : List AV → α → Prop) (rows : List (List AV)) (l : List α) : Prop := rows.length = l.length ∧ ∀ (i : Nat) r x, rows[i]? = some r → l[i]? = some x → P r x

/-- The document's disk. -/
structure DDk (hp : Hp) (k : Nat) (fv wv : AV) (fr wr : List (List AV)) (d : Dk) (S : Nat → Prop) : Prop where
  top : lk hp k = some (0, .cells [.i .i64 (d.quota : Nat), fv, wv, .i .i64 d.left, .b d.dead])
  topS : S k
  files : SV 2 hp S fv fr
  ways : SV 2 hp S wv wr
  fr : Rel2 (FR hp S) fr d.files
  wr : Rel2 (WR hp S) wr d.ways
def DRep (hp : Hp) (nx k : Nat) (d : Dk) (S : Nat → Prop) : Prop := (∀ j, S j → j < nx) ∧ ∃ fv wv fr wr, DDk hp k fv wv fr wr d S

theorem SV.of {sz : Nat} {hp hp' : Hp} {S S' : Nat → Prop} {v : AV} {rows : List (List AV)} {k : Nat} {cs : List AV} (h : SV sz hp S v rows) (hk : lk hp k = some (0, .cells cs)) (hf : ∀ j, S j → j ≠ k → lk hp' j = lk hp j) (hS : ∀ j, S j → S' j) : SV sz hp' S' v rows := by
  rcases h with h | ⟨a, g, i0, all, h1, h2, h3, h4, h5⟩
  · exact .inl h
  · refine .inr ⟨a, g, i0, all, h1, (hf a h5 fun e => ?_).trans h2, h3, h4, hS a h5⟩
    subst e
    rw [hk] at h2
    cases h2
theorem WR.of {hp hp' : Hp} {S S' : Nat → Prop} {r : List AV} {w : Way} {k : Nat} {cs : List AV} (h : WR hp S r w) (hk : lk hp k = some (0, .cells cs)) (hf : ∀ j, S j → j ≠ k → lk hp' j = lk hp j) (hS : ∀ j, S j → S' j) : WR hp' S' r w := by
  obtain ⟨a, b, h1, h2, h3⟩ := h
  exact ⟨a, b, h1, h2.of hk hf hS, h3.of hk hf hS⟩
theorem FR.of {hp hp' : Hp} {S S' : Nat → Prop} {r : List AV} {f : Fl} {k : Nat} {cs : List AV} (h : FR hp S r f) (hk : lk hp k = some (0, .cells cs)) (hf : ∀ j, S j → j ≠ k → lk hp' j = lk hp j) (hS : ∀ j, S j → S' j) : FR hp' S' r f := by
  obtain ⟨v, h1, h2⟩ := h
  exact ⟨v, h1, h2.of hk hf hS⟩
theorem Rel2.imp {α : Type} {P Q : List AV → α → Prop} {rows : List (List AV)} {l : List α} (h : Rel2 P rows l) (hi : ∀ r x, P r x → Q r x) : Rel2 Q rows l := ⟨h.1, fun i r x h1 h2 => hi _ _ (h.2 i r x h1 h2)⟩
theorem Rel2.get {α : Type} {P : List AV → α → Prop} {rows : List (List AV)} {l : List α} (h : Rel2 P rows l) {i : Nat} {x : α} (hx : l[i]? = some x) : ∃ r, rows[i]? = some r ∧ P r x := by
  have hi : i < rows.length := by rw [h.1]; exact (List.getElem?_eq_some_iff.1 hx).1
  exact ⟨rows[i], List.getElem?_eq_getElem hi, h.2 i _ x (List.getElem?_eq_getElem hi) hx⟩
theorem Rel2.snoc {α : Type} {P : List AV → α → Prop} {rows : List (List AV)} {l : List α} {r : List AV} {x : α} (h : Rel2 P rows l) (hr : P r x) : Rel2 P (rows ++ [r]) (l ++ [x]) := by
  refine ⟨by simp [h.1], fun i r' x' h1 h2 => ?_⟩
  by_cases hi : i < rows.length
  · rw [List.getElem?_append_left hi] at h1
    rw [List.getElem?_append_left (by rw [← h.1]; exact hi)] at h2
    exact h.2 i r' x' h1 h2
  · rw [List.getElem?_append_right (by omega)] at h1
    rw [List.getElem?_append_right (by rw [← h.1]; omega), ← h.1] at h2
    have : i - rows.length = 0 := by
      have := (List.getElem?_eq_some_iff.1 h1).1
      simp at this; omega
    rw [this] at h1 h2
    simp at h1 h2
    exact h1 ▸ h2 ▸ hr
theorem Rel2.set {α : Type} {P : List AV → α → Prop} {rows : List (List AV)} {l : List α} {r : List AV} {x : α} {i : Nat} (h : Rel2 P rows l) (hr : P r x) : Rel2 P (rows.set i r) (l.set i x) := by
  refine ⟨by simp [h.1], fun j r' x' h1 h2 => ?_⟩
  by_cases hi : i = j
  · subst hi
    have hl := (List.getElem?_eq_some_iff.1 h1).1
    rw [List.length_set] at hl
    rw [List.getElem?_set_self hl] at h1
    rw [List.getElem?_set_self (by rw [← h.1]; exact hl)] at h2
    cases h1; cases h2; exact hr
  · rw [List.getElem?_set_ne hi] at h1 h2
    exact h.2 j r' x' h1 h2

/-- Only the disk's own cells turned, or what else it is made of is new. -/
theorem DDk.turn {hp hp' : Hp} {k : Nat} {fv wv fv' wv' : AV} {fr wr fr' wr' : List (List AV)} {d d' : Dk} {S S' : Nat → Prop} (h : DDk hp k fv wv fr wr d S) (hf : ∀ j, S j → j ≠ k → lk hp' j = lk hp j) (hS : ∀ j, S j → S' j)
    (htop : lk hp' k = some (0, .cells [.i .i64 (d'.quota : Nat), fv', wv', .i .i64 d'.left, .b d'.dead]))
    (hfv : (fv' = fv ∧ fr' = fr ∧ d'.files = d.files) ∨ (SV 2 hp' S' fv' fr' ∧ Rel2 (FR hp' S') fr' d'.files)) (hwv : (wv' = wv ∧ wr' = wr ∧ d'.ways = d.ways) ∨ (SV 2 hp' S' wv' wr' ∧ Rel2 (WR hp' S') wr' d'.ways)) :
    DDk hp' k fv' wv' fr' wr' d' S' := by
  refine ⟨htop, hS _ h.topS, ?_, ?_, ?_, ?_⟩
  · rcases hfv with ⟨rfl, rfl, e⟩ | h1
    · exact h.files.of h.top hf hS
    · exact h1.1
  · rcases hwv with ⟨rfl, rfl, e⟩ | h1
    · exact h.ways.of h.top hf hS
    · exact h1.1
  · rcases hfv with ⟨rfl, rfl, e⟩ | h1
    · rw [e]; exact h.fr.imp fun r x hr => hr.of h.top hf hS
    · exact h1.2
  · rcases hwv with ⟨rfl, rfl, e⟩ | h1
    · rw [e]; exact h.wr.imp fun r x hr => hr.of h.top hf hS
    · exact h1.2
theorem DRep.frame {hp hp' : Hp} {nx nx' k : Nat} {d : Dk} {S : Nat → Prop} (h : DRep hp nx k d S) (hf : ∀ j, S j → lk hp' j = lk hp j) (hn : nx ≤ nx') : DRep hp' nx' k d S := by
  obtain ⟨hS, fv, wv, fr, wr, h⟩ := h
  exact ⟨fun j hj => Nat.lt_of_lt_of_le (hS j hj) hn, fv, wv, fr, wr, h.turn (fun j hj _ => hf j hj) (fun _ h => h) ((hf k h.topS).trans h.top) (.inl ⟨rfl, rfl, rfl⟩) (.inl ⟨rfl, rfl, rfl⟩)⟩

theorem SV.okc {sz : Nat} {hp : Hp} {S : Nat → Prop} {v : AV} {rows : List (List AV)} (h : SV sz hp S v rows) : v.okc = true := by
  rcases h with ⟨_, z, rfl⟩ | ⟨a, g, i0, all, rfl, _⟩ <;> rfl
theorem SV.mv {sz : Nat} {hp : Hp} {S : Nat → Prop} {v : AV} {rows : List (List AV)} (h : SV sz hp S v rows) : v.mv = true := by
  rcases h with ⟨_, z, rfl⟩ | ⟨a, g, i0, all, rfl, _⟩ <;> rfl
/-- An element's place in a slice that is shown. -/
theorem SV.at {sz : Nat} {hp : Hp} {S : Nat → Prop} {v : AV} {rows : List (List AV)} (h : SV sz hp S v rows) {i : Nat} {r : List AV} (hr : rows[i]? = some r) :
    ∃ a g i0 all, v = .rs a g i0 rows.length sz ∧ lk hp a = some (g, .arr sz all) ∧ all[i0 + i]? = some r ∧ S a ∧ i0 + rows.length ≤ all.length ∧ (all.drop i0).take rows.length = rows := by
  have hi := (List.getElem?_eq_some_iff.1 hr).1
  rcases h with ⟨h, _⟩ | ⟨a, g, i0, all, h1, h2, h3, h4, h5⟩
  · subst h; simp at hi
  · refine ⟨a, g, i0, all, h1, h2, ?_, h5, h4, h3⟩
    rw [← h3, List.getElem?_take_of_lt hi, List.getElem?_drop] at hr
    exact hr

theorem c_dnow {K n N : Nat} (hn : 1 ≤ n) {d : Dk} {k : Nat} {fv wv : AV} {fr wr : List (List AV)} {hp : Hp} {nx : Nat} {S : Nat → Prop} (hI : d.Inv N) (hN : N ≤ 2 ^ 21) (h : DDk hp k fv wv fr wr d S) {a b : AV}
    (h1 : wr[d.ways.length - 1]? = some [a, b]) (h2 : SV 1 hp S a (nameRows d.now)) (h3 : SV 1 hp S b (fiRows d.now)) :
    Sp K n 66 [.ptr k 0 0] hp nx fun r hp' nx' => hp' = hp ∧ nx ≤ nx' ∧ r = .agg [a, b] := by
  refine sp_cps fun Q hQ => ?_
  obtain ⟨n, rfl⟩ : ∃ m, n = m + 1 := ⟨n - 1, by omega⟩
  have hg := h.top
  have hwl := h.wr.1
  have hnw := hI.nways
  have hne : 0 < d.ways.length := List.length_pos_iff.2 hI.ne
  obtain ⟨kw, g, i0, all, e1, e2, e3, e4, e5, _⟩ := h.ways.at h1
  subst e1
  refine sp_of rfl (run_wp Try.func66 rfl (by simp [Try.f66]) ?_)
  have w1 : IntKind.i64.wrap ((wr.length : Int) - 1) = ((d.ways.length - 1 : Nat) : Int) := by rw [hwl, wrap_i64 (by omega) (by omega)]; omega
  have w2 : ((d.ways.length - 1 : Nat) : Int) < (wr.length : Int) := by omega
  simp [hg, e2, e3, w1, w2, h2.okc, h3.okc]
  refine ⟨⟨by kernel_rfl, by simp [dynOk, pairsOk, befOf, Region.binds, Eff.apart, Eff.clear, Eff.wkeys, Ref.key, AV.refs0, List.range, List.range.loop]⟩, ?_⟩
  refine hQ _ _ _ ?_
  exact ⟨rfl, by omega, rfl⟩
theorem f_dnow {K n N : Nat} (hn : 1 ≤ n) {d : Dk} {k : Nat} {fv wv : AV} {fr wr : List (List AV)} {hp : Hp} {S : Nat → Prop} (hI : d.Inv N) (hN : N ≤ 2 ^ 21) (h : DDk hp k fv wv fr wr d S) :
    ∃ (a b : AV) (nf : Nat → Nat), SV 1 hp S a (nameRows d.now) ∧ SV 1 hp S b (fiRows d.now) ∧ ∀ nx, callA cfg K n 66 [.ptr k 0 0] hp nx = some (.agg [a, b], hp, nf nx) ∧ nx ≤ nf nx := by
  obtain ⟨r, h1, a, b, rfl, h2, h3⟩ := h.wr.get (now_at hI.ne)
  refine ⟨a, b, fun nx => ((callA cfg K n 66 [.ptr k 0 0] hp nx).getD (.undef, [], 0)).2.2, h2, h3, fun nx => ?_⟩
  obtain ⟨r, hp', nx', e1, rfl, e2, rfl⟩ := c_dnow (K := K) (nx := nx) hn hI hN h h1 h2 h3
  simp [e1, e2]

/-- A change that would be done, counted. -/
theorem c_dstops {K n N : Nat} (hn : 1 ≤ n) {d : Dk} {k : Nat} {fv wv : AV} {hp : Hp} {nx : Nat} (hI : d.Inv N) (hg : lk hp k = some (0, .cells [.i .i64 (d.quota : Nat), fv, wv, .i .i64 d.left, .b d.dead])) :
    Sp K n 68 [.ptr k 0 0] hp nx fun r hp' nx' => r = .b d.stops ∧ nx ≤ nx' ∧ Only k (.cells [.i .i64 (d.quota : Nat), fv, wv, .i .i64 d.stop1.left, .b d.stop1.dead]) hp hp' := by
  refine sp_cps fun Q hQ => ?_
  obtain ⟨n, rfl⟩ : ∃ m, n = m + 1 := ⟨n - 1, by omega⟩
  have hl := hI.left
  refine sp_of rfl (run_wp Try.func68 rfl (by simp [Try.f68]) ?_)
  cases hd : d.dead with
  | true =>
    have e1 : d.stop1 = d := by simp [Dk.stop1, hd]
    rw [hd] at hg
    simp [hg]
    refine hQ _ _ _ ?_
    refine ⟨by simp [Dk.stops, hd], by omega, fun j => ?_⟩
    rw [e1, hd]
    by_cases hj : j = k <;> simp [hj, hg]
  | false =>
    rw [hd] at hg
    by_cases h1 : d.left = 1
    · have e1 : d.stop1.left = d.left ∧ d.stop1.dead = true := by simp [Dk.stop1, hd, h1]
      rw [h1] at hg
      simp [hg, lk_set]
      refine hQ _ _ _ ?_
      refine ⟨by simp [Dk.stops, h1], by omega, fun j => ?_⟩
      rw [e1.1, e1.2, h1, lk_set]
    have b2 : (d.left == 1) = false := by simpa using h1
    by_cases h2 : 1 < d.left
    · have e1 : d.stop1.left = d.left - 1 ∧ d.stop1.dead = false := by simp [Dk.stop1, hd, h1, h2]
      have e3 : IntKind.i64.wrap (d.left - 1) = d.left - 1 := wrap_i64 (by omega) (by omega)
      simp [hg, b2, h2, e3, lk_set]
      refine hQ _ _ _ ?_
      refine ⟨by simp [Dk.stops, h1, hd], by omega, fun j => ?_⟩
      rw [e1.1, e1.2, lk_set]
    · have e1 : d.stop1 = d := by simp [Dk.stop1, hd, h1, h2]
      simp [hg, b2, h2]
      refine hQ _ _ _ ?_
      refine ⟨by simp [Dk.stops, h1, hd], by omega, fun j => ?_⟩
      rw [e1, hd]
      by_cases hj : j = k <;> simp [hj, hg]

end Ab
end Go.Proofs.Ytecjchghapgdeaa
