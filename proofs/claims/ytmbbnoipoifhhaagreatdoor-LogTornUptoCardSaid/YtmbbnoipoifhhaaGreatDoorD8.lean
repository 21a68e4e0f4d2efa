/-
  DERIVED. The program's disk, call by call: Rename, Sync, SyncNames, Stop, New; slices.Clone of bytes.
  Conditions: enough rounds, enough depth; a disk of bounded size.
-/
import Derived.Test.YtmbbnoipoifhhaaGreatDoorD7
set_option linter.all false
set_option maxHeartbeats 4000000
namespace Go.Proofs.YtmbbnoipoifhhaaGreatDoor
namespace Ab
set_option maxRecDepth 100000
set_option maxHeartbeats 4000000
set_option linter.all false
attribute [local simp] wp_region regionA opsA nCall rCall goCallR pCall pnCall lenA appendA appRow newsA rowsSz rowsOf isIntD makeSliceA elemOf rowsBuilt eqA eq1

/-- Behind a change of a file. -/
theorem turn_end {nx nx3 k m i : Nat} {d : Dk} {wv v' : AV} {ms : List Nat} {φ : Nat → Nat} {bv : Nat → AV} {hp hp1 H3 : Hp} {S : Nat → Prop} {f' : Fl} (hS : ∀ j, S j → j < nx) (h : PDk hp k m wv ms φ bv d S) (hi : d.Has i)
    (ho : Only k (.cells [.i .i64 (d.quota : Nat), .mp (some m), wv, .i .i64 d.stop1.stopC]) hp hp1) (hcell : lk H3 (φ i) = some (0, .cells [v', .i .i64 (f'.fast : Nat)])) (hx : nx ≤ nx3)
    (hv : SX 1 H3 (grw S nx nx3) v' (byteRows f'.b)) (hvn : ∀ kb g n, v' = .rs kb g 0 n 1 → nx ≤ kb ∨ ∃ g n, bv i = .rs kb g 0 n 1)
    (hkeep : ∀ j, j < nx → j ≠ φ i → (∀ g n, bv i ≠ .rs j g 0 n 1) → lk H3 j = lk hp1 j) : PRep H3 nx3 k (d.stop1.setF i f') (grw S nx nx3) ∧ Frm S hp nx H3 nx3 := by
  have h1 := ho.pdk h
  obtain ⟨f0, z1, z2, z3, z4⟩ := h.file i hi
  have hi1 : d.stop1.Has i := by
    obtain ⟨w, a, b⟩ := hi
    exact ⟨w, by simpa using a, b⟩
  have hkφ : k ≠ φ i := ne_of_lk h.top z2 (by simp)
  have hkb : ∀ g n, bv i ≠ .rs k g 0 n 1 := fun g n e => by
    rcases z4 with ⟨_, a⟩ | ⟨kb, g', a, b, _⟩
    · rw [a] at e; cases e
    · rw [a] at e; cases e; rw [h.top] at b; cases b
  have hbS : ∀ j g n, bv i = .rs j g 0 n 1 → S j := fun j g n e => by
    rcases z4 with ⟨_, a⟩ | ⟨kb, g', a, _, b⟩
    · rw [a] at e; cases e
    · rw [a] at e; cases e; exact b
  refine ⟨⟨fun j hj => hj.elim (fun h => by have := hS j h; omega) fun h => h.2, m, wv, ms, φ, _, PDk.turn (f' := f') (v' := v') h1 hi1 (fun _ h => .inl h) rfl rfl (by simp [Dk.setF]) ?_ hcell hv (fun kb g n e => ?_) (fun j hj h1 h2 h3 => hkeep j (hS j hj) h2 h3)⟩, hx, fun j hj hn => ?_⟩
  · rw [hkeep k (hS k h.topS) hkφ hkb, h1.top]
    simp [Dk.setF, Dk.stopC]
  · rcases hvn kb g n e with h2 | h2
    · exact .inl fun hh => by have := hS _ hh; omega
    · exact .inr h2
  · rw [hkeep j hj (fun e => hn (by rw [e]; exact z3)) (fun g n e => hn (hbS j g n e)), ho.ne (fun e => hn (by rw [e]; exact h.topS))]

theorem c_pSync {K n N : Nat} (hK : big K) (hn : 4 ≤ n) {d : Dk} {k : Nat} {hp : Hp} {nx : Nat} {S : Nat → Prop} (hI : d.Inv N) (h : PRep hp nx k d S) (s : Bs) :
    Sp K n 76 [.ptr k 0 0, .s (ba s)] hp nx fun r hp' nx' => r = .i .i64 (d.sync s).1 ∧ PRep hp' nx' k (d.sync s).2 (grw S nx nx') ∧ Frm S hp nx hp' nx' := by
  refine sp_cps fun Q hQ => ?_
  obtain ⟨n, rfl⟩ : ∃ m, n = m + 1 := ⟨n - 1, by omega⟩
  obtain ⟨hS, m, wv, ms, φ, bv, h⟩ := h
  obtain ⟨h1, n1, e1⟩ := f_changes (K := K) (n := n) (by omega) hI h
  obtain ⟨nf, ef⟩ := f_find (K := K) (n := n) hK (by omega) hI h s
  have e0 := fun N => (ef N).1
  have gf : ∀ N, nx ≤ N → nx ≤ nf N := fun N hN => Nat.le_trans hN (ef N).2
  have gf' : ∀ N c, nx ≤ N → nx ≤ nf N + c := fun N c hN => leA (gf N hN)
  have e1' := fun N => (e1 N).1
  have g1 : ∀ N, nx ≤ N → nx ≤ n1 N := fun N hN => Nat.le_trans hN (e1 N).2.1
  have g1' : ∀ N c, nx ≤ N → nx ≤ n1 N + c := fun N c hN => leA (g1 N hN)
  refine sp_of rfl (run_wp Tryz.func76 rfl (by simp [Tryz.f76]) ?_)
  cases hs : nameOk s with
  | false =>
    have hcr : d.sync s = (6, d) := by simp [Dk.sync, Dk.at, hs]
    rw [hcr] at hQ
    simp [findR, hs] at e0
    simp [e0, Nat.add_assoc]
    refine hQ _ _ _ ?_
    exact ⟨rfl, quiet hS h (by simp [gf, gf'])⟩
  | true =>
    cases hfw : findW d.now s with
    | none =>
      have hcr : d.sync s = (40, d) := by simp [Dk.sync, Dk.at, hs, hfw]
      rw [hcr] at hQ
      simp [findR, hs, hfw] at e0
      simp [e0, Nat.add_assoc]
      refine hQ _ _ _ ?_
      exact ⟨rfl, quiet hS h (by simp [gf, gf'])⟩
    | some j =>
      simp [findR, hs, hfw] at e0
      obtain ⟨hj, _⟩ := hI.found hfw
      obtain ⟨f, z1, z2, z3, z4⟩ := h.file j hj
      have hkφ : φ j ≠ k := ne_of_lk z2 h.top (by simp)
      have o1 : ∀ N, lk (h1 N) (φ j) = some (0, .cells [bv j, .i .i64 (f.fast : Nat)]) := fun N => by rw [(e1 N).2.2.ne hkφ]; exact z2
      cases hst : d.stops with
      | true =>
        rw [hst] at e1'
        have hcr : d.sync s = (44, d.stop1) := by simp [Dk.sync, Dk.at, Dk.goes, hs, hfw, hst]
        rw [hcr] at hQ
        simp (maxDischargeDepth := 8) [e0, e1', Nat.add_assoc]
        refine hQ _ _ _ ?_
        exact ⟨rfl, counted hS h (by simp [gf, g1, gf', g1']) (e1 _).2.2⟩
      | false =>
        rw [hst] at e1'
        have hcr : d.sync s = (0, d.stop1.setF j ⟨f.b, f.b.length⟩) := by simp [Dk.sync, Dk.at, Dk.goes, hs, hfw, hst, file_eq z1]
        rw [hcr] at hQ
        have hbv : SX 1 hp S (bv j) (byteRows f.b) := z4
        have hlen : slLen (bv j) = some f.b.length := by
          rcases z4 with ⟨a, b⟩ | ⟨kb, g, a, b, c⟩
          · have : f.b = [] := by simpa [byteRows] using a
            rw [b]; simp [slLen, this]
          · rw [a]; simp [slLen]
        have hfin : ∀ N nx3, nx ≤ nx3 → PRep (up (h1 N) (φ j) (0, .cells [bv j, .i .i64 (f.b.length : Nat)])) nx3 k (d.stop1.setF j ⟨f.b, f.b.length⟩) (grw S nx nx3) ∧ Frm S hp nx (up (h1 N) (φ j) (0, .cells [bv j, .i .i64 (f.b.length : Nat)])) nx3 := fun N nx3 hx => by
          refine turn_end hS h hj (e1 N).2.2 (by rw [lk_set, if_pos rfl]) hx ?_ (fun kb g n e => .inr ⟨g, n, e⟩) (fun i hi a b => by rw [lk_set, if_neg a])
          rcases z4 with ⟨a, b⟩ | ⟨kb, g, a, b, c⟩
          · exact .inl ⟨a, b⟩
          · refine .inr ⟨kb, g, a, ?_, .inl c⟩
            rw [lk_set, if_neg (ne_of_lk b z2 (by simp)), (e1 N).2.2.ne (ne_of_lk b h.top (by simp))]
            exact b
        rcases z4 with ⟨a, b⟩ | ⟨kb, g, a, b, c⟩
        · have hb0 : f.b = [] := by simpa [byteRows] using a
          rw [b] at o1 hfin
          rw [hb0] at hfin hQ
          simp (maxDischargeDepth := 8) [e0, e1', Nat.add_assoc, o1]
          refine hQ _ _ _ ?_
          exact ⟨rfl, hfin _ _ (by simp [gf, g1, gf', g1'])⟩
        · rw [a] at o1 hfin
          simp at o1 hfin
          simp (maxDischargeDepth := 8) [e0, e1', Nat.add_assoc, o1]
          refine hQ _ _ _ ?_
          exact ⟨rfl, hfin _ _ (by simp [gf, g1, gf', g1'])⟩

end Ab
end Go.Proofs.YtmbbnoipoifhhaaGreatDoor
