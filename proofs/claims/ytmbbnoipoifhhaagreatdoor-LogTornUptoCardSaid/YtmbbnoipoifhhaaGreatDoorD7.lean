/-
  DERIVED. The program's disk, call by call: Remove, Rename, Sync, SyncNames, Stop, New.
  Conditions: enough rounds, enough depth; a disk of bounded size.
-/
import Derived.Test.YtmbbnoipoifhhaaGreatDoorD6
set_option linter.all false
set_option maxHeartbeats 4000000
namespace Go.Proofs.YtmbbnoipoifhhaaGreatDoor
namespace Ab
set_option maxRecDepth 100000
set_option maxHeartbeats 4000000
set_option linter.all false
attribute [local simp] wp_region regionA opsA nCall rCall goCallR pCall pnCall lenA appendA appRow newsA rowsSz rowsOf isIntD makeSliceA elemOf rowsBuilt eqA eq1

/-- Behind a change of names without a new file. -/
theorem names_end {N n1 n2 m m' nx nx3 k : Nat} {d : Dk} {wv wv' : AV} {ms : List Nat} {φ : Nat → Nat} {bv : Nat → AV} {hp hp1 hp2 H3 : Hp} {es es' : List (Bs × Nat)} {S : Nat → Prop} {w' : Way} (hS : ∀ j, S j → j < nx) (hI : d.Inv N) (h : PDk hp k m wv ms φ bv d S)
    (ho : Only k (.cells [.i .i64 (d.quota : Nat), .mp (some m), wv, .i .i64 d.stop1.stopC]) hp hp1) (hr : Ren k m n1 m' n2 (.i .i64 (d.quota : Nat)) (.i .i64 d.stop1.stopC) wv wv' ms (encM es) S hp1 hp2)
    (hH : ∀ j, lk H3 j = if j = m' then some (0, .mp (encM es')) else lk hp2 j) (hes : es'.Perm (w'.map fun e => (e.1, φ e.2))) (hw : ∀ e ∈ w', d.Has e.2) (hnx : nx ≤ n1) (hnx3 : n2 ≤ nx3) :
    PRep H3 nx3 k (Dk.with d.stop1 w') (grw S nx nx3) ∧ Frm S hp nx H3 nx3 := by
  have hk := hS k h.topS
  have e1 := hr.le; have e2 := hr.m1; have e3 := hr.m2
  have hlow : ∀ j, j < nx → j ≠ k → (∀ g n, wv ≠ .rs j g 0 n 1) → lk H3 j = lk hp j := fun j hj h1 h2 => by
    rw [hH, if_neg (by omega), hr.keep j (by omega) h1 h2, ho.ne h1]
  have hwS : ∀ j g n, wv = .rs j g 0 n 1 → S j := fun j g n e => by
    rcases h.was with ⟨_, a⟩ | ⟨kw, g', a, _, b⟩
    · rw [a] at e; cases e
    · rw [a] at e; cases e; exact b
  have hasE : ∀ i, (Dk.with d.stop1 w').Has i → d.Has i := fun i hi => by
    rcases has_with hi with h1 | ⟨e, he, h1⟩
    · obtain ⟨w, a, b⟩ := h1
      exact ⟨w, by simpa using a, b⟩
    · rw [← h1]; exact hw e he
  refine ⟨⟨fun j hj => hj.elim (fun h => by have := hS j h; omega) fun h => h.2, m', wv', ms ++ [m], φ, bv, ?_⟩, by omega, fun j hj hn => hlow j hj (fun e => hn (by rw [e]; exact h.topS)) fun g n e => hn (hwS j g n e)⟩
  refine PDk.push (d := d) (S := S) h hI.ne (by simp [Dk.with]) (fun _ h => .inl h) ?_ ⟨es', by rw [hH, if_pos rfl], hes⟩ (.inr ⟨by omega, by omega⟩) ?_ (fun j hj h1 h2 => hlow j (hS j hj) h1 h2) (fun i hi => ⟨rfl, rfl, by simp [Dk.with]⟩) (fun i hi hn => absurd (hasE i hi) hn) (fun i j hi hn _ _ => absurd (hasE i hi) hn) (fun kw g' n' e => ?_)
  · rw [hH, if_neg (by omega), hr.top]
    simp [Dk.with, Dk.stopC]
  · rcases hr.was with ⟨a, b⟩ | ⟨kw, g, a, b, c⟩
    · exact .inl ⟨a, b⟩
    · refine .inr ⟨kw, g, a, ?_, ?_⟩
      · rw [hH, if_neg (ne_of_lk b hr.map (by simp))]
        exact b
      · rcases c with c | c
        · exact .inl c
        · exact .inr ⟨by omega, by omega⟩
  · rcases hr.wn kw g' n' e with h1 | ⟨g, n, h1⟩
    · exact .inl fun hh => by have := hS _ hh; omega
    · exact .inr ⟨g, n, h1⟩

theorem names_end1 {N n1 n2 m m' nx nx3 k : Nat} {d : Dk} {wv wv' : AV} {ms : List Nat} {φ : Nat → Nat} {bv : Nat → AV} {hp hp1 hp2 : Hp} {es es' : List (Bs × Nat)} {S : Nat → Prop} {w' : Way} (hS : ∀ j, S j → j < nx) (hI : d.Inv N) (h : PDk hp k m wv ms φ bv d S)
    (ho : Only k (.cells [.i .i64 (d.quota : Nat), .mp (some m), wv, .i .i64 d.stop1.stopC]) hp hp1) (hr : Ren k m n1 m' n2 (.i .i64 (d.quota : Nat)) (.i .i64 d.stop1.stopC) wv wv' ms (encM es) S hp1 hp2)
    (hes : es'.Perm (w'.map fun e => (e.1, φ e.2))) (hw : ∀ e ∈ w', d.Has e.2) (hnx : nx ≤ n1) (hnx3 : n2 ≤ nx3) :
    PRep (up hp2 m' (0, .mp (encM es'))) nx3 k (Dk.with d.stop1 w') (grw S nx nx3) ∧ Frm S hp nx (up hp2 m' (0, .mp (encM es'))) nx3 :=
  names_end hS hI h ho hr (fun j => by rw [lk_set]) hes hw hnx hnx3
theorem delM_at {es : List (Bs × Nat)} {s : Bs} {i n : Nat} (h : fI es s 0 = some (i, n)) : es.eraseIdx i = delM es s := by simp [delM, h]
/-- The phases 'changes', 'renames' of a call. -/
theorem phases {K n N0 nx : Nat} (hn : 2 ≤ n) {d : Dk} {k m : Nat} {wv : AV} {ms : List Nat} {φ : Nat → Nat} {bv : Nat → AV} {hp : Hp} {S : Nat → Prop} (hI : d.Inv N0) (hN : N0 ≤ 2 ^ 21) (hS : ∀ j, S j → j < nx) (h : PDk hp k m wv ms φ bv d S)
    {es : List (Bs × Nat)} (hm : lk hp m = some (0, .mp (encM es))) :
    ∃ (h1 : Nat → Hp) (n1 : Nat → Nat) (P : Hp → Nat → Prop) (r : Hp → Nat → AV) (h2 : Hp → Nat → Hp) (n2 m2 : Hp → Nat → Nat) (w2 : Hp → Nat → AV),
      (∀ N, callA cfg K n 45 [.ptr k 0 0] hp N = some (.tup [.b (!d.dead && d.left == 1), .b d.stops], h1 N, n1 N) ∧ N ≤ n1 N ∧ Only k (.cells [.i .i64 (d.quota : Nat), .mp (some m), wv, .i .i64 d.stop1.stopC]) hp (h1 N)) ∧
      (∀ N' N, nx ≤ N' → n1 N' ≤ N → P (h1 N') N) ∧
      (∀ H N, P H N → callA cfg K n 46 [.ptr k 0 0] H N = some (r H N, h2 H N, n2 H N) ∧ Ren k m N (m2 H N) (n2 H N) (.i .i64 (d.quota : Nat)) (.i .i64 d.stop1.stopC) wv (w2 H N) ms (encM es) S H (h2 H N)) := by
  have hmk : m ≠ k := ne_of_lk hm h.top (by simp)
  obtain ⟨h1, n1, e1⟩ := f_changes (K := K) (n := n) (by omega) hI h
  obtain ⟨r2, h2, n2, m2, w2, e2⟩ := f_renames (K := K) (n := n) (by omega) k m (.i .i64 (d.quota : Nat)) (.i .i64 d.stop1.stopC) wv ms (encM es) S (fun H N => ∃ N', nx ≤ N' ∧ H = h1 N' ∧ n1 N' ≤ N) (by have := hI.nways; have := h.waslen; omega) (fun H N hx => by
    obtain ⟨N', a, rfl, b⟩ := hx
    have ho := (e1 N').2.2
    have hle := (e1 N').2.1
    have hq := ho.pdk h
    refine ⟨fun j hj => by have := hS j hj; omega, ?_, ?_, ?_⟩
    · have := hq.top; simpa using this
    · rw [ho.ne hmk]; exact hm
    · exact hq.was) h.topS h.nowS
  exact ⟨h1, n1, _, r2, h2, n2, m2, w2, e1, fun N' N a b => ⟨N', a, rfl, b⟩, e2⟩

theorem leA {x y c : Nat} (h : x ≤ y) : x ≤ y + c := Nat.le_add_right_of_le h

theorem c_pRemove {K n N : Nat} (hK : big K) (hn : 4 ≤ n) {d : Dk} {k : Nat} {hp : Hp} {nx : Nat} {S : Nat → Prop} (hI : d.Inv N) (hN : N ≤ 2 ^ 21) (h : PRep hp nx k d S) (s : Bs) :
    Sp K n 50 [.ptr k 0 0, .s (ba s)] hp nx fun r hp' nx' => r = .i .i64 (d.remove s).1 ∧ PRep hp' nx' k (d.remove s).2 (grw S nx nx') ∧ Frm S hp nx hp' nx' := by
  refine sp_cps fun Q hQ => ?_
  obtain ⟨n, rfl⟩ : ∃ m, n = m + 1 := ⟨n - 1, by omega⟩
  obtain ⟨hS, m, wv, ms, φ, bv, h⟩ := h
  obtain ⟨es, hm, hp'⟩ := h.now
  have hf := perm_find s hp' hI.rising
  obtain ⟨h1, n1, P, r2, h2, n2, m2, w2, e1, hP1, e2⟩ := phases (K := K) (n := n) (by omega) hI hN hS h hm
  obtain ⟨nf, ef⟩ := f_find (K := K) (n := n) hK (by omega) hI h s
  have e0 := fun N => (ef N).1
  have gf : ∀ N, nx ≤ N → nx ≤ nf N := fun N hN => Nat.le_trans hN (ef N).2
  have gf' : ∀ N c, nx ≤ N → nx ≤ nf N + c := fun N c hN => leA (gf N hN)
  have e1' := fun N => (e1 N).1
  have g1 : ∀ N, nx ≤ N → nx ≤ n1 N := fun N hN => Nat.le_trans hN (e1 N).2.1
  have g1' : ∀ N c, nx ≤ N → nx ≤ n1 N + c := fun N c hN => leA (g1 N hN)
  have e2' := fun H N hx => (e2 H N hx).1
  have t2 := fun H N hx => (e2 H N hx).2.top
  have u2 := fun H N hx => (e2 H N hx).2.map
  have v2 : ∀ H N, P H N → ∀ c, ¬ m2 H N = n2 H N + c := fun H N hx c => by have := (e2 H N hx).2.m2; omega
  refine sp_of rfl (run_wp Tryz.func50 rfl (by simp [Tryz.f50]) ?_)
  cases hs : nameOk s with
  | false =>
    have hcr : d.remove s = (6, d) := by simp [Dk.remove, Dk.at, hs]
    rw [hcr] at hQ
    simp [findR, hs] at e0
    simp [e0, Nat.add_assoc]
    refine hQ _ _ _ ?_
    exact ⟨rfl, quiet hS h (by simp [gf, gf'])⟩
  | true =>
    cases hi : fI es s 0 with
    | none =>
      have hfw : findW d.now s = none := by
        rw [hi] at hf
        simpa using hf.symm
      have hcr : d.remove s = (40, d) := by simp [Dk.remove, Dk.at, hs, hfw]
      rw [hcr] at hQ
      simp [findR, hs, hfw] at e0
      simp [e0, Nat.add_assoc]
      refine hQ _ _ _ ?_
      exact ⟨rfl, quiet hS h (by simp [gf, gf'])⟩
    | some x =>
      obtain ⟨i, n0⟩ := x
      obtain ⟨j, hfw, rfl⟩ : ∃ j, findW d.now s = some j ∧ n0 = φ j := by
        rw [hi] at hf
        cases hw : findW d.now s with
        | none => rw [hw] at hf; cases hf
        | some j => rw [hw] at hf; exact ⟨j, rfl, by simpa using hf⟩
      simp [findR, hs, hfw] at e0
      cases hst : d.stops with
      | true =>
        rw [hst] at e1'
        have hcr : d.remove s = (44, d.stop1) := by simp [Dk.remove, Dk.at, Dk.goes, hs, hfw, hst]
        rw [hcr] at hQ
        simp (maxDischargeDepth := 8) [e0, e1', Nat.add_assoc]
        refine hQ _ _ _ ?_
        exact ⟨rfl, counted hS h (by simp [gf, g1, gf', g1']) (e1 _).2.2⟩
      | false =>
        rw [hst] at e1'
        have hcr : d.remove s = (0, d.stop1.with (delW d.stop1.now s)) := by simp [Dk.remove, Dk.at, Dk.goes, hs, hfw, hst]
        rw [hcr] at hQ
        simp (maxDischargeDepth := 8) [e0, e1', Nat.add_assoc, e2', hP1, t2, u2, v2, lk_set, lookup_enc, hi, keyD, gf, g1, gf', g1', encM_erase, delM_at hi]
        refine hQ _ _ _ ?_
        exact ⟨rfl, names_end1 hS hI h (e1 _).2.2 (e2 _ _ (hP1 _ _ (by simp [gf, g1, gf', g1']) (Nat.le_add_right _ _))).2 (by simpa using del_perm s hp' hI.rising) (fun e he => ⟨d.now, hI.now, e, by simpa using (List.mem_filter.1 he).1, rfl⟩) (by simp [gf, g1, gf', g1']) (by omega)⟩
end Ab
end Go.Proofs.YtmbbnoipoifhhaaGreatDoor
