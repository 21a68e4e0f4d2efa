/-
  DERIVED. The program's disk: how it lies behind a change of names, of a file; what maps.Clone, used, list come to.
  Conditions: none of a program's.
-/
import Derived.Test.YtmbbnoipoifhhaaGreatDoorD4
set_option linter.all false
set_option maxHeartbeats 4000000
namespace Go.Proofs.YtmbbnoipoifhhaaGreatDoor
namespace Ab
set_option maxRecDepth 100000
set_option maxHeartbeats 4000000
set_option linter.all false
attribute [local simp] wp_region regionA opsA nCall rCall goCallR pCall pnCall lenA appendA appRow newsA rowsSz rowsOf isIntD makeSliceA elemOf rowsBuilt eqA eq1

theorem h_mclone {K n m nx : Nat} {es : List (AV × AV)} {hp : Hp} (hn : 1 ≤ n) (hm : lk hp m = some (0, .mp es)) : callA cfg K n 80 [.mp (some m)] hp nx = some (.mp (some nx), up hp nx (0, .mp es), nx + 1) := by
  obtain ⟨n, rfl⟩ : ∃ m, n = m + 1 := ⟨n - 1, by omega⟩
  rw [callA_hint (g := hintOf RClone) rfl]
  refine hintOf_of ⟨m, es, rfl, hm, rfl⟩ fun o' ho => ?_
  obtain ⟨m', es', h1, h2, h3⟩ := ho
  simp only [List.cons.injEq, AV.mp.injEq, Option.some.injEq, and_true] at h1
  subst h1
  rw [hm] at h2
  simp only [Option.some.injEq, Prod.mk.injEq, AO.mp.injEq, true_and] at h2
  rw [h3, h2]

theorem h_used {K n k m nx : Nat} {q ws st : AV} {es : List (Bs × Nat)} {ln : Nat → Nat} {hp : Hp} (hn : 1 ≤ n) (hk : lk hp k = some (0, .cells [q, .mp (some m), ws, st])) (hm : lk hp m = some (0, .mp (encM es)))
    (hf : ∀ e ∈ es, ∃ v f, lk hp e.2 = some (0, .cells [v, f]) ∧ slLen v = some (ln e.2)) (hs : (es.map fun e => ln e.2).sum < 2 ^ 62) :
    callA cfg K n 47 [.ptr k 0 0] hp nx = some (.i .i64 ((es.map fun e => ln e.2).sum : Nat), hp, nx) := by
  obtain ⟨n, rfl⟩ : ∃ m, n = m + 1 := ⟨n - 1, by omega⟩
  rw [callA_hint (g := hintOf RUsed) rfl]
  refine hintOf_of ⟨k, m, q, ws, st, es, ln, rfl, hk, hm, hf, hs, rfl⟩ fun o' ho => ?_
  obtain ⟨k', m', q', ws', st', es', ln', h1, h2, h3, h4, h5, h6⟩ := ho
  simp only [List.cons.injEq, AV.ptr.injEq, and_true] at h1
  subst h1
  rw [hk] at h2
  simp only [Option.some.injEq, Prod.mk.injEq, AO.cells.injEq, List.cons.injEq, AV.mp.injEq, true_and, and_true] at h2
  obtain ⟨_, rfl, _⟩ := h2
  rw [hm] at h3
  simp only [Option.some.injEq, Prod.mk.injEq, AO.mp.injEq, true_and] at h3
  obtain rfl := encM_inj h3
  have : (es.map fun e => ln' e.2) = es.map fun e => ln e.2 := by
    apply List.map_congr_left
    intro e he
    obtain ⟨v, f, a1, a2⟩ := hf e he
    obtain ⟨v', f', b1, b2⟩ := h4 e he
    rw [a1] at b1
    simp only [Option.some.injEq, Prod.mk.injEq, AO.cells.injEq, List.cons.injEq, true_and, and_true] at b1
    obtain ⟨rfl, _⟩ := b1
    rw [a2] at b2
    simpa using b2.symm
  rw [h6, this]

theorem h_list {K n k m nx : Nat} {q ws st : AV} {es : List (Bs × Nat)} {hp : Hp} (hn : 1 ≤ n) (hk : lk hp k = some (0, .cells [q, .mp (some m), ws, st])) (hm : lk hp m = some (0, .mp (encM es)))
    (h1 : (es.map (·.1)).Nodup) (h2 : es.length ≤ 2 ^ 20) (h3 : ∀ e ∈ es, e.1.length ≤ 2 ^ 20) :
    callA cfg K n 49 [.ptr k 0 0] hp nx = some (if es = [] then (.vs true 0 [], hp, nx) else (.rs nx 0 0 es.length 1, up hp nx (0, .arr 1 (((es.map (·.1)).mergeSort fun x y => decide (x ≤ y)).map fun x => [.s (ba x)])), nx + 1)) := by
  obtain ⟨n, rfl⟩ : ∃ m, n = m + 1 := ⟨n - 1, by omega⟩
  rw [callA_hint (g := hintOf RList) rfl]
  refine hintOf_of ⟨k, m, q, ws, st, es, rfl, hk, hm, h1, h2, h3, rfl⟩ fun o' ho => ?_
  obtain ⟨k', m', q', ws', st', es', h1', h2', h3', h4', h5', h6', h7'⟩ := ho
  simp only [List.cons.injEq, AV.ptr.injEq, and_true] at h1'
  subst h1'
  rw [hk] at h2'
  simp only [Option.some.injEq, Prod.mk.injEq, AO.cells.injEq, List.cons.injEq, AV.mp.injEq, true_and, and_true] at h2'
  obtain ⟨_, rfl, _⟩ := h2'
  rw [hm] at h3'
  simp only [Option.some.injEq, Prod.mk.injEq, AO.mp.injEq, true_and] at h3'
  obtain rfl := encM_inj h3'
  exact h7'

theorem ne_of_lk {hp : Hp} {a b : Nat} {x y : Nat × AO} (ha : lk hp a = some x) (hb : lk hp b = some y) (h : x ≠ y) : a ≠ b := by
  rintro rfl
  rw [ha] at hb
  cases hb
  exact h rfl

def mrows (ms : List Nat) : List (List AV) := ms.map fun m => [.mp (some m)]
@[simp] theorem mrows_len (ms : List Nat) : (mrows ms).length = ms.length := by simp [mrows]

theorem shown_all {rows : List (List AV)} {n : Nat} (h : n = rows.length) : shown rows 0 n = rows := by
  subst h
  simp [shown]
theorem sp_cps {K n : Nat} {g : FuncId} {args : List AV} {hp : Hp} {nx : Nat} {P : AV → Hp → Nat → Prop} (h : ∀ Q : AV → Hp → Nat → Prop, (∀ r hp' nx', P r hp' nx' → Q r hp' nx') → Sp K n g args hp nx Q) : Sp K n g args hp nx P := h P fun _ _ _ h => h

theorem c_renames {K n : Nat} (hn : 2 ≤ n) (k m : Nat) (q st wv : AV) (ms : List Nat) (es : List (AV × AV)) (hp : Hp) (nx : Nat) (S : Nat → Prop) (hS : ∀ j, S j → j < nx) (hg : lk hp k = some (0, .cells [q, .mp (some m), wv, st])) (hm : lk hp m = some (0, .mp es))
    (hw : SX 1 hp S wv (mrows ms)) (kS : S k) (mS : S m) (hms : ms.length ≤ 2 ^ 22) :
    Sp K n 46 [.ptr k 0 0] hp nx fun _ hp' nx' => ∃ m' wv', nx ≤ nx' ∧ nx ≤ m' ∧ m' < nx' ∧ lk hp' k = some (0, .cells [q, .mp (some m'), wv', st]) ∧ lk hp' m' = some (0, .mp es) ∧ SX 1 hp' (grw S nx nx') wv' (mrows (ms ++ [m])) ∧
      (∀ kw g' n', wv' = .rs kw g' 0 n' 1 → nx ≤ kw ∨ ∃ g n, wv = .rs kw g 0 n 1) ∧ ∀ j, j < nx → j ≠ k → (∀ g n, wv ≠ .rs j g 0 n 1) → lk hp' j = lk hp j := by
  refine sp_cps fun Q hQ => ?_
  obtain ⟨n, rfl⟩ : ∃ m, n = m + 1 := ⟨n - 1, by omega⟩
  have hkm : m ≠ k := ne_of_lk hm hg (by simp)
  have k1 := hS k kS
  have m1 := hS m mS
  have f1 : ∀ c, ¬ k = nx + c := fun c => by omega
  have f2 : ∀ c, ¬ m = nx + c := fun c => by omega
  have f3 : ∀ c, ¬ nx + c = k := fun c => by omega
  have f4 : ∀ c, ¬ nx + c = m := fun c => by omega
  have hc := fun hp nx h => h_mclone (K := K) (n := n) (m := m) (nx := nx) (es := es) (hp := hp) (by omega) h
  refine sp_of rfl (run_wp Tryz.func46 rfl (by simp [Tryz.f46]) ?_)
  rcases hw with ⟨h1, rfl⟩ | ⟨kw, g, rfl, h2, h3⟩
  · have h1' : ms = [] := by simpa [mrows] using h1
    subst h1'
    simp [hg, hm, hkm, f1, f2, f3, f4, mostB, lk_set, hc, Nat.add_assoc]
    refine ⟨⟨by kernel_rfl, ?_⟩, ?_⟩
    · simp [dynOk, pairsOk, befOf, Region.binds, Eff.apart, Eff.clear, Eff.wkeys, Ref.key, AV.refs0, List.range, List.range.loop, f1, f3]
    · refine hQ _ _ _ ⟨nx + 23, .rs (nx + 10) 0 0 1 1, by omega, by omega, by omega, by simp [lk_set], by simp [lk_set, f3], .inr ⟨nx + 10, 0, rfl, by simp [lk_set, mrows, f3], .inr (by omega)⟩, fun kw g' n' e => by cases e; exact .inl (by omega), fun j hj h1 _ => ?_⟩
      have e1 : ∀ c, ¬ j = nx + c := fun c => by omega
      simp [lk_set, h1, e1]
  · have kw1 := hS kw h3
    have g1 : kw ≠ k := ne_of_lk h2 hg (by simp)
    have g2 : kw ≠ m := ne_of_lk h2 hm (by simp)
    have f5 : ∀ c, ¬ kw = nx + c := fun c => by omega
    have f6 : ∀ c, ¬ nx + c = kw := fun c => by omega
    have d1 : (ms.length + 1) * 9 ≤ 68719476736 := by omega
    have d2 : shown (mrows ms) 0 ms.length = mrows ms := shown_all (by simp)
    simp [hg, hm, hkm, f1, f2, f3, f4, f5, f6, g1, g2, g1.symm, g2.symm, h2, mostB, lk_set, hc, Nat.add_assoc, d1, d2]
    refine ⟨⟨by kernel_rfl, ?_⟩, ?_⟩
    · simp [dynOk, pairsOk, befOf, Region.binds, Eff.apart, Eff.clear, Eff.wkeys, Ref.key, AV.refs0, List.range, List.range.loop, f1, f3, f5, f6, g1, g1.symm]
    · refine hQ _ _ _ ⟨nx + 23, .rs kw (g + 1) 0 (ms.length + 1) 1, by omega, by omega, by omega, by simp [lk_set], by simp [lk_set, f3], .inr ⟨kw, g + 1, by simp, by simp [lk_set, mrows, f5, g1], .inl h3⟩, fun kw g' n' e => by cases e; exact .inr ⟨_, _, rfl⟩, fun j hj h1 h2 => ?_⟩
      have e1 : ∀ c, ¬ j = nx + c := fun c => by omega
      have e2 : ¬ j = kw := fun e => h2 g _ (by rw [e])
      simp [lk_set, h1, e1, e2]

/-- A change of names. -/
theorem PDk.push {hp hp' : Hp} {k m m' : Nat} {wv wv' : AV} {ms : List Nat} {φ φ' : Nat → Nat} {bv bv' : Nat → AV} {d d' : Dk} {S S' : Nat → Prop} {w' : Way} (h : PDk hp k m wv ms φ bv d S) (hne : d.ways ≠ [])
    (hways : d'.ways = d.ways ++ [w']) (hS : ∀ j, S j → S' j)
    (htop : lk hp' k = some (0, .cells [.i .i64 (d'.quota : Nat), .mp (some m'), wv', .i .i64 d'.stopC])) (hnow : Mp hp' φ' m' w') (m'S : S' m') (hwas : SX 1 hp' S' wv' (mrows (ms ++ [m])))
    (hkeep : ∀ j, S j → j ≠ k → (∀ g n, wv ≠ .rs j g 0 n 1) → lk hp' j = lk hp j)
    (hold : ∀ i, d.Has i → φ' i = φ i ∧ bv' i = bv i ∧ d'.files[i]? = d.files[i]?)
    (hnew : ∀ i, d'.Has i → ¬ d.Has i → ∃ f, d'.files[i]? = some f ∧ lk hp' (φ' i) = some (0, .cells [bv' i, .i .i64 (f.fast : Nat)]) ∧ S' (φ' i) ∧ ¬ S (φ' i) ∧ bv' i = .vs true 0 [] ∧ f.b = [])
    (hnew1 : ∀ i j, d'.Has i → ¬ d.Has i → d'.Has j → ¬ d.Has j → i = j)
    (hwno : ∀ kw g' n', wv' = .rs kw g' 0 n' 1 → ¬ S kw ∨ ∃ g n, wv = .rs kw g 0 n 1) : PDk hp' k m' wv' (ms ++ [m]) φ' bv' d' S' := by
  have hwl : d.ways.length = ms.length + 1 := h.waslen.symm
  have hnoww : d.ways[ms.length]? = some d.now := by
    rw [show ms.length = d.ways.length - 1 by omega, ← List.getLast?_eq_getElem?]
    unfold Dk.now
    cases hw : d.ways.getLast? with
    | none => exact absurd (List.getLast?_eq_none_iff.1 hw) hne
    | some x => simp [List.getLastD_eq_getLast?, hw]
  have hmap : ∀ j w, Mp hp φ j w → S j → (∀ e ∈ w, d.Has e.2) → Mp hp' φ' j w := fun j w hm hj hh => by
    obtain ⟨es, h1, h2⟩ := hm
    refine ⟨es, ?_, ?_⟩
    · rw [hkeep j hj (ne_of_lk h1 h.top (by simp)) (fun g n e => by
        rcases h.was with ⟨_, h3⟩ | ⟨kw, g', h3, h4, _⟩
        · rw [h3] at e; cases e
        · rw [h3] at e; cases e
          rw [h1] at h4; cases h4)]
      exact h1
    · have : (w.map fun e => (e.1, φ' e.2)) = w.map fun e => (e.1, φ e.2) := List.map_congr_left fun e he => by rw [(hold e.2 (hh e he)).1]
      rw [this]; exact h2
  have hfk : ∀ i, d.Has i → lk hp' (φ i) = lk hp (φ i) := fun i hi => by
    obtain ⟨f, a1, a2, a3, a4⟩ := h.file i hi
    refine hkeep _ a3 (ne_of_lk a2 h.top (by simp)) fun g n e => ?_
    rcases h.was with ⟨_, h3⟩ | ⟨kw, g', h3, h4, _⟩
    · rw [h3] at e; cases e
    · rw [h3] at e; cases e
      rw [a2] at h4; cases h4
  have hbk : ∀ i, d.Has i → ∀ f, d.files[i]? = some f → SX 1 hp' S' (bv i) (byteRows f.b) := fun i hi f hf => by
    obtain ⟨f', a1, a2, a3, a4⟩ := h.file i hi
    rw [hf] at a1; cases a1
    rcases a4 with a4 | ⟨kb, g, b1, b2, b3⟩
    · exact .inl a4
    · exact .inr ⟨kb, g, b1, by rw [hkeep kb b3 (ne_of_lk b2 h.top (by simp)) (fun g' n e => h.wasno i kb g _ g' n hi b1 e)]; exact b2, hS _ b3⟩
  have has' : ∀ i, d.Has i → d'.Has i := fun i ⟨w, hw, e⟩ => ⟨w, by rw [hways]; exact List.mem_append_left _ hw, e⟩
  refine ⟨htop, hS k h.topS, ?_, m'S, hwas, by rw [hways]; simp; omega, fun j mj w h1 h2 => ?_, fun i hi => ?_, fun i j hi hj he => ?_, fun i j kb g n g' n' hi hj h1 h2 => ?_, fun i kb g n g' n' hi h1 h2 => ?_⟩
  · have : d'.now = w' := by simp [Dk.now, hways]
    rw [this]; exact hnow
  · rw [hways] at h2
    by_cases hj : j < ms.length
    · rw [List.getElem?_append_left hj] at h1
      rw [List.getElem?_append_left (by omega)] at h2
      obtain ⟨a, b⟩ := h.ways j mj w h1 h2
      exact ⟨hmap _ _ a b fun e he => ⟨w, List.mem_of_getElem? h2, e, he, rfl⟩, hS _ b⟩
    · rw [List.getElem?_append_right (by omega)] at h1
      have hj2 : j = ms.length := by
        have := (List.getElem?_eq_some_iff.1 h1).1
        simp at this; omega
      subst hj2
      simp at h1
      subst h1
      rw [List.getElem?_append_left (by omega), hnoww] at h2
      cases h2
      exact ⟨hmap _ _ h.now h.nowS fun e he => ⟨d.now, List.mem_of_getElem? hnoww, e, he, rfl⟩, hS _ h.nowS⟩
  · by_cases ho : d.Has i
    · obtain ⟨e1, e2, e3⟩ := hold i ho
      obtain ⟨f, a1, a2, a3, a4⟩ := h.file i ho
      exact ⟨f, by rw [e3]; exact a1, by rw [e1, e2, hfk i ho]; exact a2, by rw [e1]; exact hS _ a3, by rw [e2]; exact hbk i ho f a1⟩
    · obtain ⟨f, a1, a2, a3, a4, a5, a6⟩ := hnew i hi ho
      exact ⟨f, a1, a2, a3, .inl ⟨by simp [a6, byteRows], a5⟩⟩
  · by_cases ho : d.Has i
    · obtain ⟨f, a1, a2, a3, a4⟩ := h.file i ho
      by_cases hoj : d.Has j
      · rw [(hold i ho).1, (hold j hoj).1] at he
        exact h.inj i j ho hoj he
      · obtain ⟨f', b1, b2, b3, b4, _⟩ := hnew j hj hoj
        rw [← he, (hold i ho).1] at b4
        exact absurd a3 b4
    · obtain ⟨f', b1, b2, b3, b4, _⟩ := hnew i hi ho
      by_cases hoj : d.Has j
      · obtain ⟨f, a1, a2, a3, a4⟩ := h.file j hoj
        rw [he, (hold j hoj).1] at b4
        exact absurd a3 b4
      · exact hnew1 i j hi ho hj hoj
  · by_cases ho : d.Has i
    · by_cases hoj : d.Has j
      · rw [(hold i ho).2.1] at h1
        rw [(hold j hoj).2.1] at h2
        exact h.binj i j kb g n g' n' ho hoj h1 h2
      · obtain ⟨f', b1, b2, b3, b4, b5, _⟩ := hnew j hj hoj
        rw [b5] at h2; cases h2
    · obtain ⟨f', b1, b2, b3, b4, b5, _⟩ := hnew i hi ho
      rw [b5] at h1; cases h1
  · by_cases ho : d.Has i
    · rw [(hold i ho).2.1] at h1
      rcases hwno kb g' n' h2 with h3 | ⟨g2, n2, h3⟩
      · obtain ⟨f, a1, a2, a3, a4⟩ := h.file i ho
        rcases a4 with ⟨_, a4⟩ | ⟨kb', g3, b1, b2, b3⟩
        · rw [a4] at h1; cases h1
        · rw [b1] at h1; cases h1
          exact h3 b3
      · exact h.wasno i kb g n g2 n2 ho h1 h3
    · obtain ⟨f', b1, b2, b3, b4, b5, _⟩ := hnew i hi ho
      rw [b5] at h1; cases h1

/-- A file's bytes, or how many stand fast. -/
theorem PDk.turn {hp hp' : Hp} {k m : Nat} {wv v' : AV} {ms : List Nat} {φ : Nat → Nat} {bv : Nat → AV} {d d' : Dk} {S S' : Nat → Prop} {i0 : Nat} {f' : Fl} (h : PDk hp k m wv ms φ bv d S) (hi : d.Has i0) (hS : ∀ j, S j → S' j)
    (hways : d'.ways = d.ways) (hq : d'.quota = d.quota) (hfiles : d'.files = d.files.set i0 f')
    (htop : lk hp' k = some (0, .cells [.i .i64 (d'.quota : Nat), .mp (some m), wv, .i .i64 d'.stopC]))
    (hcell : lk hp' (φ i0) = some (0, .cells [v', .i .i64 (f'.fast : Nat)])) (hv : SX 1 hp' S' v' (byteRows f'.b)) (hvn : ∀ kb g n, v' = .rs kb g 0 n 1 → ¬ S kb ∨ ∃ g n, bv i0 = .rs kb g 0 n 1)
    (hkeep : ∀ j, S j → j ≠ k → j ≠ φ i0 → (∀ g n, bv i0 ≠ .rs j g 0 n 1) → lk hp' j = lk hp j) : PDk hp' k m wv ms φ (fun i => if i = i0 then v' else bv i) d' S' := by
  obtain ⟨f0, z1, z2, z3, z4⟩ := h.file i0 hi
  have hasEq : ∀ i, d'.Has i ↔ d.Has i := fun i => by unfold Dk.Has; rw [hways]
  have hlen : i0 < d.files.length := (List.getElem?_eq_some_iff.1 z1).1
  have nb : ∀ j x, lk hp j = some (0, x) → ∀ g n, bv i0 ≠ .rs j g 0 n 1 ∨ ∃ rows, x = .arr 1 rows := fun j x hx g n => by
    rcases z4 with ⟨_, z4⟩ | ⟨kb, g2, b1, b2, b3⟩
    · left; rw [z4]; simp
    · by_cases hj : kb = j
      · subst hj; rw [b2] at hx; cases hx; exact .inr ⟨_, rfl⟩
      · left; rw [b1]; intro e; cases e; exact hj rfl
  have kmap : ∀ j w, Mp hp φ j w → S j → Mp hp' φ j w := fun j w ⟨es, h1, h2⟩ hj => by
    refine ⟨es, ?_, h2⟩
    rw [hkeep j hj (ne_of_lk h1 h.top (by simp)) (ne_of_lk h1 z2 (by simp)) (fun g n => by
      rcases nb j _ h1 g n with h3 | ⟨_, h3⟩
      · exact h3
      · cases h3)]
    exact h1
  refine ⟨by rw [htop], hS k h.topS, ?_, hS m h.nowS, ?_, by rw [hways]; exact h.waslen, fun j mj w h1 h2 => ?_, fun i hi' => ?_, fun i j hi' hj he => h.inj i j ((hasEq i).1 hi') ((hasEq j).1 hj) he, fun i j kb g n g' n' hi' hj h1 h2 => ?_, fun i kb g n g' n' hi' h1 h2 => ?_⟩
  · have : d'.now = d.now := by simp [Dk.now, hways]
    rw [this]; exact kmap _ _ h.now h.nowS
  · rcases h.was with h1 | ⟨kw, g, h1, h2, h3⟩
    · exact .inl h1
    · refine .inr ⟨kw, g, h1, ?_, hS _ h3⟩
      rw [hkeep kw h3 (ne_of_lk h2 h.top (by simp)) (ne_of_lk h2 z2 (by simp)) (fun g' n e => h.wasno i0 kw g' n g _ hi e h1)]
      exact h2
  · rw [hways] at h2
    obtain ⟨a, b⟩ := h.ways j mj w h1 h2
    exact ⟨kmap _ _ a b, hS _ b⟩
  · by_cases he : i = i0
    · subst he
      refine ⟨f', by rw [hfiles]; simp [hlen], ?_, hS _ z3, ?_⟩
      · simp only [if_true]; exact hcell
      · simp only [if_true]; exact hv
    · obtain ⟨f, a1, a2, a3, a4⟩ := h.file i ((hasEq i).1 hi')
      refine ⟨f, by rw [hfiles, List.getElem?_set_ne (fun e => he e.symm)]; exact a1, ?_, hS _ a3, ?_⟩
      · rw [hkeep _ a3 (ne_of_lk a2 h.top (by simp)) (fun e => he (h.inj i i0 ((hasEq i).1 hi') hi e)) (fun g n => by
          rcases nb _ _ a2 g n with h3 | ⟨_, h3⟩
          · exact h3
          · cases h3)]
        simp only [if_neg he]; exact a2
      · simp only [if_neg he]
        rcases a4 with a4 | ⟨kb, g, b1, b2, b3⟩
        · exact .inl a4
        · refine .inr ⟨kb, g, b1, ?_, hS _ b3⟩
          rw [hkeep kb b3 (ne_of_lk b2 h.top (by simp)) (ne_of_lk b2 z2 (by simp)) (fun g' n e => he (h.binj i i0 kb g _ g' n ((hasEq i).1 hi') hi b1 e))]
          exact b2
  · have key : ∀ i j kb g n g' n', d.Has i → d.Has j → i = i0 → ¬ j = i0 → v' = .rs kb g 0 n 1 → bv j = .rs kb g' 0 n' 1 → False := fun i j kb g n g' n' a b e1 e2 c1 c2 => by
      obtain ⟨f, a1, a2, a3, a4⟩ := h.file j b
      rcases a4 with ⟨_, a4⟩ | ⟨kb2, g2, b1, b2, b3⟩
      · rw [a4] at c2; cases c2
      · rw [b1] at c2; cases c2
        rcases hvn kb g n c1 with h3 | ⟨g3, n3, h3⟩
        · exact h3 b3
        · exact e2 (h.binj j i0 kb _ _ g3 n3 b hi b1 h3)
    by_cases e1 : i = i0
    · by_cases e2 : j = i0
      · rw [e1, e2]
      · simp only [if_pos e1] at h1
        simp only [if_neg e2] at h2
        exact (key i j kb g n g' n' ((hasEq i).1 hi') ((hasEq j).1 hj) e1 e2 h1 h2).elim
    · by_cases e2 : j = i0
      · simp only [if_neg e1] at h1
        simp only [if_pos e2] at h2
        exact (key j i kb g' n' g n ((hasEq j).1 hj) ((hasEq i).1 hi') e2 e1 h2 h1).elim
      · simp only [if_neg e1] at h1
        simp only [if_neg e2] at h2
        exact h.binj i j kb g n g' n' ((hasEq i).1 hi') ((hasEq j).1 hj) h1 h2
  · by_cases e1 : i = i0
    · simp only [if_pos e1] at h1
      rcases hvn kb g n h1 with h3 | ⟨g3, n3, h3⟩
      · rcases h.was with ⟨_, h4⟩ | ⟨kw, g4, h4, _, h5⟩
        · rw [h4] at h2; cases h2
        · rw [h4] at h2; cases h2
          exact h3 h5
      · exact h.wasno i0 kb g3 n3 g' n' hi h3 h2
    · simp only [if_neg e1] at h1
      exact h.wasno i kb g n g' n' ((hasEq i).1 hi') h1 h2

/-- The object's own cells alone. -/
theorem PDk.top' {hp hp' : Hp} {k m : Nat} {wv : AV} {ms : List Nat} {φ : Nat → Nat} {bv : Nat → AV} {d d' : Dk} {S S' : Nat → Prop} (h : PDk hp k m wv ms φ bv d S) (hS : ∀ j, S j → S' j) (hways : d'.ways = d.ways) (hfiles : ∀ i, d.Has i → d'.files[i]? = d.files[i]?)
    (htop : lk hp' k = some (0, .cells [.i .i64 (d'.quota : Nat), .mp (some m), wv, .i .i64 d'.stopC])) (hkeep : ∀ j, S j → j ≠ k → lk hp' j = lk hp j) : PDk hp' k m wv ms φ bv d' S' := by
  have hasEq : ∀ i, d'.Has i ↔ d.Has i := fun i => by unfold Dk.Has; rw [hways]
  have sx : ∀ v rows, SX 1 hp S v rows → SX 1 hp' S' v rows := fun v rows hv => by
    rcases hv with h1 | ⟨kw, g, h1, h2, h3⟩
    · exact .inl h1
    · exact .inr ⟨kw, g, h1, by rw [hkeep kw h3 (ne_of_lk h2 h.top (by simp))]; exact h2, hS _ h3⟩
  have kmap : ∀ j w, Mp hp φ j w → S j → Mp hp' φ j w := fun j w ⟨es, h1, h2⟩ hj => ⟨es, by rw [hkeep j hj (ne_of_lk h1 h.top (by simp))]; exact h1, h2⟩
  refine ⟨htop, hS k h.topS, ?_, hS m h.nowS, sx _ _ h.was, by rw [hways]; exact h.waslen, fun j mj w h1 h2 => ?_, fun i hi => ?_, fun i j hi hj => h.inj i j ((hasEq i).1 hi) ((hasEq j).1 hj), fun i j kb g n g' n' hi hj => h.binj i j kb g n g' n' ((hasEq i).1 hi) ((hasEq j).1 hj), fun i kb g n g' n' hi => h.wasno i kb g n g' n' ((hasEq i).1 hi)⟩
  · have : d'.now = d.now := by simp [Dk.now, hways]
    rw [this]; exact kmap _ _ h.now h.nowS
  · rw [hways] at h2
    obtain ⟨a, b⟩ := h.ways j mj w h1 h2
    exact ⟨kmap _ _ a b, hS _ b⟩
  · obtain ⟨f, a1, a2, a3, a4⟩ := h.file i ((hasEq i).1 hi)
    exact ⟨f, by rw [hfiles i ((hasEq i).1 hi)]; exact a1, by rw [hkeep _ a3 (ne_of_lk a2 h.top (by simp))]; exact a2, hS _ a3, sx _ _ a4⟩

end Ab
end Go.Proofs.YtmbbnoipoifhhaaGreatDoor
