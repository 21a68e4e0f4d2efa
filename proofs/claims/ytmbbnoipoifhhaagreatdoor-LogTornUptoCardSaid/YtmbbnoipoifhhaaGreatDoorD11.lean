/-
  DERIVED. The program's disk, call by call: Cut, New, Size, Fast, Open, Used, Read.
  Conditions: enough rounds, enough depth; a disk of bounded size.
-/
import Derived.Test.YtmbbnoipoifhhaaGreatDoorD10
set_option linter.all false
set_option maxHeartbeats 4000000
namespace Go.Proofs.YtmbbnoipoifhhaaGreatDoor
namespace Ab
set_option maxRecDepth 100000
set_option maxHeartbeats 8000000
set_option linter.all false
attribute [local simp] wp_region regionA opsA nCall rCall goCallR pCall pnCall lenA appendA appRow newsA rowsSz rowsOf isIntD makeSliceA elemOf rowsBuilt eqA eq1

def gz (b : Bs) : Nat := if b = [] then 0 else 1
theorem f_sclone {K n : Nat} (hn : 1 ≤ n) (b : Bs) (hb : b.length ≤ 2 ^ 30) (nx : Nat) :
    callA cfg K n 43 [.vs false 1 (byteRows b)] [] nx = some (.rs (nx + 3) (gz b) 0 b.length 1, [(nx + 3, (gz b, .arr 1 (byteRows b)))], nx + 7) := c_sclone hn b hb
theorem f_sclone0 {K n : Nat} (hn : 1 ≤ n) (z nx : Nat) : callA cfg K n 43 [.vs true z []] [] nx = some (.vs true 0 [], [], nx + 4) := c_sclone0 hn z

/-- A bytes' slice of a file, as it lies. -/
theorem file_form {hp : Hp} {k m i : Nat} {wv : AV} {ms : List Nat} {φ : Nat → Nat} {bv : Nat → AV} {d : Dk} {S : Nat → Prop} (h : PDk hp k m wv ms φ bv d S) (hi : d.Has i) :
    ∃ f, d.files[i]? = some f ∧ lk hp (φ i) = some (0, .cells [bv i, .i .i64 (f.fast : Nat)]) ∧ S (φ i) ∧ φ i ≠ k ∧ d.file i = f ∧
      ((f.b = [] ∧ bv i = .vs true 0 []) ∨ ∃ kb g, bv i = .rs kb g 0 f.b.length 1 ∧ lk hp kb = some (g, .arr 1 (byteRows f.b)) ∧ kb ≠ φ i ∧ kb ≠ k ∧ S kb) := by
  obtain ⟨f, z1, z2, z3, z4⟩ := h.file i hi
  refine ⟨f, z1, z2, z3, ne_of_lk z2 h.top (by simp), file_eq z1, ?_⟩
  rcases z4 with ⟨xa, xb⟩ | ⟨kb, g, xa, xb, xc⟩
  · exact .inl ⟨by simpa [byteRows] using xa, xb⟩
  · exact .inr ⟨kb, g, by simpa using xa, xb, ne_of_lk xb z2 (by simp), ne_of_lk xb h.top (by simp), xc⟩

theorem c_pCut {K n N : Nat} (hK : big K) (hn : 4 ≤ n) {d : Dk} {k : Nat} {hp : Hp} {nx : Nat} {S : Nat → Prop} (hI : d.Inv N) (h : PRep hp nx k d S) (s : Bs) (c : Int) :
    Sp K n 75 [.ptr k 0 0, .s (ba s), .i .i64 c] hp nx fun r hp' nx' => r = .i .i64 (d.cut s c).1 ∧ PRep hp' nx' k (d.cut s c).2 (grw S nx nx') ∧ Frm S hp nx hp' nx' := by
  refine sp_cps fun Q hQ => ?_
  obtain ⟨n, rfl⟩ : ∃ m, n = m + 1 := ⟨n - 1, by omega⟩
  obtain ⟨hS, m, wv, ms, φ, bv, h⟩ := h
  obtain ⟨h1, n1, e1⟩ := f_changes (K := K) (n := n) (by omega) hI h
  obtain ⟨nf, ef⟩ := f_find (K := K) (n := n) hK (by omega) hI h s
  have e0 := fun N => (ef N).1
  have gf : ∀ N, nx ≤ N → nx ≤ nf N := fun N hN => Nat.le_trans hN (ef N).2
  have gf' : ∀ N c, nx ≤ N → nx ≤ nf N + c := fun N c hN => leA (gf N hN)
  have e1' := fun N => (e1 N).1
  have g1 : ∀ N, nx ≤ N → nx ≤ n1 N := fun N hN => Nat.le_trans hN (e1 N).2.1
  have g1' : ∀ N c, nx ≤ N → nx ≤ n1 N + c := fun N c hN => leA (g1 N hN)
  refine sp_of rfl (run_wp Tryz.func75 rfl (by simp [Tryz.f75]) ?_)
  cases hs : nameOk s with
  | false =>
    have hcr : d.cut s c = (6, d) := by simp [Dk.cut, Dk.at, hs]
    rw [hcr] at hQ
    simp [findR, hs] at e0
    simp [e0, Nat.add_assoc]
    refine hQ _ _ _ ?_
    exact ⟨rfl, quiet hS h (by simp [gf, gf'])⟩
  | true =>
    cases hfw : findW d.now s with
    | none =>
      have hcr : d.cut s c = (40, d) := by simp [Dk.cut, Dk.at, hs, hfw]
      rw [hcr] at hQ
      simp [findR, hs, hfw] at e0
      simp [e0, Nat.add_assoc]
      refine hQ _ _ _ ?_
      exact ⟨rfl, quiet hS h (by simp [gf, gf'])⟩
    | some j =>
      simp [findR, hs, hfw] at e0
      obtain ⟨hj, _⟩ := hI.found hfw
      obtain ⟨f, z1, z2, z3, z5, z6, z7⟩ := file_form h hj
      have hl := hI.file f (List.mem_of_getElem? z1)
      have o1 : ∀ N, lk (h1 N) (φ j) = some (0, .cells [bv j, .i .i64 (f.fast : Nat)]) := fun N => by rw [(e1 N).2.2.ne z5]; exact z2
      have hbad : ∀ (hb : c < 0 ∨ (f.b.length : Int) < c), d.cut s c = (1, d) := fun hb => by simp [Dk.cut, Dk.at, hs, hfw, z6, hb]
      have hlen : slLen (bv j) = some f.b.length := by
        rcases z7 with ⟨a, b⟩ | ⟨kb, g, a, b, _⟩
        · rw [b, a]; rfl
        · rw [a]; rfl
      by_cases hc0 : c < 0
      · rw [hbad (.inl hc0)] at hQ
        simp [e0, hc0, Nat.add_assoc]
        refine hQ _ _ _ ?_
        exact ⟨rfl, quiet hS h (by simp [gf, gf'])⟩
      by_cases hc1 : (f.b.length : Int) < c
      · rw [hbad (.inr hc1)] at hQ
        rcases z7 with ⟨a, b⟩ | ⟨kb, g, a, b, _⟩
        · have hc2 : (0 : Int) < c := by rw [a] at hc1; simpa using hc1
          rw [b] at z2
          simp [e0, hc0, hc2, z2, Nat.add_assoc]
          refine hQ _ _ _ ?_
          exact ⟨rfl, quiet hS h (by simp [gf, gf'])⟩
        · rw [a] at z2
          simp [e0, hc0, hc1, z2, Nat.add_assoc]
          refine hQ _ _ _ ?_
          exact ⟨rfl, quiet hS h (by simp [gf, gf'])⟩
      have hok : d.cut s c = d.goes fun d => d.setF j ⟨(d.file j).b.take c.toNat, min (d.file j).fast c.toNat⟩ := by simp [Dk.cut, Dk.at, hs, hfw, z6, hc0, hc1]
      have hc2 : (0 : Int) ≤ c := by omega
      have hc3 : c.toNat ≤ f.b.length := by omega
      cases hst : d.stops with
      | true =>
        rw [hst] at e1'
        have hcr : d.cut s c = (44, d.stop1) := by rw [hok]; simp [Dk.goes, hst]
        rw [hcr] at hQ
        rcases z7 with ⟨a, b⟩ | ⟨kb, g, a, b, _⟩
        · have hc4 : ¬ (0 : Int) < c := by rw [a] at hc1; simpa using hc1
          rw [b] at z2
          simp (maxDischargeDepth := 8) [e0, hc0, hc4, z2, e1', Nat.add_assoc]
          refine hQ _ _ _ ?_
          exact ⟨rfl, counted hS h (by simp [gf, g1, gf', g1']) (e1 _).2.2⟩
        · rw [a] at z2
          simp (maxDischargeDepth := 8) [e0, hc0, hc1, z2, e1', Nat.add_assoc]
          refine hQ _ _ _ ?_
          exact ⟨rfl, counted hS h (by simp [gf, g1, gf', g1']) (e1 _).2.2⟩
      | false =>
        rw [hst] at e1'
        have hcr : d.cut s c = (0, d.stop1.setF j ⟨f.b.take c.toNat, min f.fast c.toNat⟩) := by rw [hok]; simp [Dk.goes, hst, z6]
        rw [hcr] at hQ
        have hmin : (if c < (f.fast : Int) then c else (f.fast : Int)) = ((min f.fast c.toNat : Nat) : Int) := by split <;> omega
        rcases z7 with ⟨a, b⟩ | ⟨kb, g, a, b, b2, b3, b4⟩
        · have hc4 : c = 0 := by rw [a] at hc1; simp at hc1; omega
          subst hc4
          rw [b] at z2 o1
          have sc := f_sclone0 (K := K) (n := n) (by omega) 0
          have hmin' : (if (0 : Int) < (f.fast : Int) then (0 : Int) else (f.fast : Int)) = 0 := by split <;> omega
          simp (maxDischargeDepth := 8) [e0, z2, o1, e1', Nat.add_assoc, sc, lk_set, mmA, hmin']
          refine hQ _ _ _ ⟨rfl, ?_⟩
          refine turn_end hS h hj (e1 (nf (nx + 9) + 20)).2.2 (f' := ⟨f.b.take (0 : Int).toNat, min f.fast (0 : Int).toNat⟩) (v' := .vs true 0 []) (by simp [lk_set]) (by simp [gf, g1, gf', g1']) (.inl ⟨by simp [byteRows], rfl⟩) (fun kb g n e => by cases e) (fun i hi h2 h3 => by simp [lk_set, h2])
        · rw [a] at z2 o1
          have ob : ∀ N, lk (h1 N) kb = some (g, .arr 1 (byteRows f.b)) := fun N => by rw [(e1 N).2.2.ne b3]; exact b
          have sc := f_sclone (K := K) (n := n) (by omega) (f.b.take c.toNat) (by simp; omega)
          have hfne : ∀ N c, nx ≤ N → ¬ φ j = n1 N + c := fun N c hN => by have := g1 N hN; have := hS _ z3; omega
          simp (maxDischargeDepth := 8) [e0, hc0, hc1, hc2, hc3, z2, o1, ob, e1', Nat.add_assoc, sc, lk_set, mmA, frz_bytes, take_bytes, hfne, gf, gf', hmin]
          refine hQ _ _ _ ⟨rfl, ?_⟩
          have hN : ∀ N, nx ≤ N → ∀ c, n1 N + c ≠ φ j := fun N hN c e => hfne N c hN e.symm
          have hq : nx ≤ nf (nx + 9) + 20 := by simp [gf, gf']
          have hq2 := g1 _ hq
          refine turn_end hS h hj (e1 (nf (nx + 9) + 20)).2.2 (f' := ⟨f.b.take c.toNat, min f.fast c.toNat⟩) (v' := .rs (n1 (nf (nx + 9) + 20) + 15) (gz (List.take c.toNat f.b)) 0 c.toNat 1) (by simp [lk_set]) (by omega) (.inr ⟨n1 (nf (nx + 9) + 20) + 15, gz (List.take c.toNat f.b), by simp [Nat.min_eq_left hc3], ?_, .inr ⟨by omega, by omega⟩⟩) (fun kb g n e => by cases e; exact .inl (by omega)) (fun i hi h2 h3 => ?_)
          · simp [lk_set, hN _ hq]
          · have : ∀ c, ¬ i = n1 (nf (nx + 9) + 20) + c := fun c => by omega
            simp [lk_set, h2, this]
/-- What is told of a file. -/
theorem c_pSize {K n N : Nat} (hK : big K) (hn : 3 ≤ n) {d : Dk} {k m : Nat} {wv : AV} {ms : List Nat} {φ : Nat → Nat} {bv : Nat → AV} {hp : Hp} {nx : Nat} {S : Nat → Prop} (hI : d.Inv N) (h : PDk hp k m wv ms φ bv d S) (s : Bs) :
    Sp K n 12 [.ptr k 0 0, .s (ba s)] hp nx fun r hp' nx' => r = .tup [.i .i64 (match (d.look s).2 with | some f => (f.b.length : Nat) | none => 0), .i .i64 (d.look s).1] ∧ hp' = hp ∧ nx ≤ nx' := by
  refine sp_cps fun Q hQ => ?_
  obtain ⟨n, rfl⟩ : ∃ m, n = m + 1 := ⟨n - 1, by omega⟩
  obtain ⟨nf, ef⟩ := f_find (K := K) (n := n) hK (by omega) hI h s
  have e0 := fun N => (ef N).1
  have gf' : ∀ N c, nx ≤ N → nx ≤ nf N + c := fun N c hN => leA (Nat.le_trans hN (ef N).2)
  refine sp_of rfl (run_wp Tryz.func12 rfl (by simp [Tryz.f12]) ?_)
  cases hs : nameOk s with
  | false =>
    simp [findR, hs] at e0
    simp [e0, Nat.add_assoc]
    exact hQ _ _ _ ⟨by simp [Dk.look, hs], rfl, by simp [gf']⟩
  | true =>
    cases hfw : findW d.now s with
    | none =>
      simp [findR, hs, hfw] at e0
      simp [e0, Nat.add_assoc]
      exact hQ _ _ _ ⟨by simp [Dk.look, hs, hfw], rfl, by simp [gf']⟩
    | some j =>
      simp [findR, hs, hfw] at e0
      obtain ⟨hj, _⟩ := hI.found hfw
      obtain ⟨f, z1, z2, z3, z5, z6, z7⟩ := file_form h hj
      rcases z7 with ⟨a, b⟩ | ⟨kb, g, a, b, b2, b3, b4⟩
      · rw [b] at z2
        simp [e0, z2, Nat.add_assoc]
        exact hQ _ _ _ ⟨by simp [Dk.look, hs, hfw, z6, a], rfl, by simp [gf']⟩
      · rw [a] at z2
        simp [e0, z2, Nat.add_assoc]
        exact hQ _ _ _ ⟨by simp [Dk.look, hs, hfw, z6], rfl, by simp [gf']⟩

/-- Bytes handed out: nobody else's. -/
theorem c_pRead {K n N : Nat} (hK : big K) (hn : 3 ≤ n) {d : Dk} {k m : Nat} {wv : AV} {ms : List Nat} {φ : Nat → Nat} {bv : Nat → AV} {hp : Hp} {nx : Nat} {S : Nat → Prop} (hI : d.Inv N) (h : PDk hp k m wv ms φ bv d S) (hS : ∀ j, S j → j < nx) (s : Bs) :
    Sp K n 13 [.ptr k 0 0, .s (ba s)] hp nx fun r hp' nx' => nx ≤ nx' ∧ (∀ j, j < nx → lk hp' j = lk hp j) ∧ ∃ v, r = .tup [v, .i .i64 (d.look s).1] ∧
      SX 1 hp' (fun j => nx ≤ j ∧ j < nx') v (byteRows (match (d.look s).2 with | some f => f.b | none => [])) := by
  refine sp_cps fun Q hQ => ?_
  obtain ⟨n, rfl⟩ : ∃ m, n = m + 1 := ⟨n - 1, by omega⟩
  obtain ⟨nf, ef⟩ := f_find (K := K) (n := n) hK (by omega) hI h s
  have e0 := fun N => (ef N).1
  have gf' : ∀ N c, nx ≤ N → nx ≤ nf N + c := fun N c hN => leA (Nat.le_trans hN (ef N).2)
  refine sp_of rfl (run_wp Tryz.func13 rfl (by simp [Tryz.f13]) ?_)
  cases hs : nameOk s with
  | false =>
    simp [findR, hs] at e0
    simp [e0, Nat.add_assoc]
    exact hQ _ _ _ ⟨by simp [gf'], fun j _ => rfl, .vs true 0 [], by simp [Dk.look, hs], .inl ⟨by simp [Dk.look, hs, byteRows], rfl⟩⟩
  | true =>
    cases hfw : findW d.now s with
    | none =>
      simp [findR, hs, hfw] at e0
      simp [e0, Nat.add_assoc]
      exact hQ _ _ _ ⟨by simp [gf'], fun j _ => rfl, .vs true 0 [], by simp [Dk.look, hs, hfw], .inl ⟨by simp [Dk.look, hs, hfw, byteRows], rfl⟩⟩
    | some j =>
      simp [findR, hs, hfw] at e0
      obtain ⟨hj, _⟩ := hI.found hfw
      obtain ⟨f, z1, z2, z3, z5, z6, z7⟩ := file_form h hj
      have hl := hI.file f (List.mem_of_getElem? z1)
      rcases z7 with ⟨a, b⟩ | ⟨kb, g, a, b, b2, b3, b4⟩
      · rw [b] at z2
        have sc := f_sclone0 (K := K) (n := n) (by omega) 0
        simp [e0, z2, Nat.add_assoc, sc]
        exact hQ _ _ _ ⟨by simp [gf'], fun j _ => rfl, .vs true 0 [], by simp [Dk.look, hs, hfw], .inl ⟨by simp [Dk.look, hs, hfw, z6, a, byteRows], rfl⟩⟩
      · rw [a] at z2
        have sc := f_sclone (K := K) (n := n) (by omega) f.b (by omega)
        have tk : (byteRows f.b).take f.b.length = byteRows f.b := List.take_of_length_le (by simp)
        simp [e0, z2, b, Nat.add_assoc, sc, tk, frz_bytes]
        have hq : nx ≤ nf (nx + 10) := by have := gf' (nx + 10) 0 (by omega); simpa using this
        refine hQ _ _ _ ⟨by simp [gf'], fun j hj => ?_, .rs (nf (nx + 10) + 12) (gz f.b) 0 f.b.length 1, by simp [Dk.look, hs, hfw], .inr ⟨nf (nx + 10) + 12, gz f.b, by simp [Dk.look, hs, hfw, z6], by simp [lk_set, Dk.look, hs, hfw, z6], by omega, by omega⟩⟩
        rw [lk_set, if_neg (by omega)]

end Ab
end Go.Proofs.YtmbbnoipoifhhaaGreatDoor
