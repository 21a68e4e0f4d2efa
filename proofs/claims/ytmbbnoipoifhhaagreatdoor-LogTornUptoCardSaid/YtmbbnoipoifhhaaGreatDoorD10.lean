/-
  DERIVED. The program's disk, call by call: Append, Cut, New.
  Conditions: enough rounds, enough depth; a disk of bounded size.
-/
import Derived.Test.YtmbbnoipoifhhaaGreatDoorD9
set_option linter.all false
set_option maxHeartbeats 4000000
namespace Go.Proofs.YtmbbnoipoifhhaaGreatDoor
namespace Ab
set_option maxRecDepth 100000
set_option maxHeartbeats 8000000
set_option linter.all false
attribute [local simp] wp_region regionA opsA nCall rCall goCallR pCall pnCall lenA appendA appRow newsA rowsSz rowsOf isIntD makeSliceA elemOf rowsBuilt eqA eq1

theorem quo2 (n : Nat) (h : n ≤ 2 ^ 40) : IntKind.i64.wrap ((n : Int).tdiv 2) = ((n / 2 : Nat) : Int) := by
  have : (n : Int).tdiv 2 = ((n / 2 : Nat) : Int) := by
    rw [Int.tdiv_eq_ediv_of_nonneg (by omega)]; omega
  rw [this, wrap_i64 (by omega) (by omega)]

theorem c_pAppend {K n N : Nat} (hK : big K) (hn : 4 ≤ n) {d : Dk} {k : Nat} {hp : Hp} {nx : Nat} {S : Nat → Prop} (hI : d.Inv N) (h : PRep hp nx k d S) (s b : Bs) (v : AV) (hv : AR hp S nx v b) (hb : b.length ≤ 2 ^ 30) :
    Sp K n 15 [.ptr k 0 0, .s (ba s), v] hp nx fun r hp' nx' => r = .i .i64 (d.append s b).1 ∧ PRep hp' nx' k (d.append s b).2 (grw S nx nx') ∧ Frm S hp nx hp' nx' := by
  refine sp_cps fun Q hQ => ?_
  obtain ⟨n, rfl⟩ : ∃ m, n = m + 1 := ⟨n - 1, by omega⟩
  obtain ⟨hS, m, wv, ms, φ, bv, h⟩ := h
  obtain ⟨h1, n1, e1⟩ := f_changes (K := K) (n := n) (by omega) hI h
  obtain ⟨nf, ef⟩ := f_find (K := K) (n := n) hK (by omega) hI h s
  have eu := f_used (K := K) (n := n) (by omega) hI h
  have hu := hI.used
  have e0 := fun N => (ef N).1
  have gf : ∀ N, nx ≤ N → nx ≤ nf N := fun N hN => Nat.le_trans hN (ef N).2
  have gf' : ∀ N c, nx ≤ N → nx ≤ nf N + c := fun N c hN => leA (gf N hN)
  have e1' := fun N => (e1 N).1
  have g1 : ∀ N, nx ≤ N → nx ≤ n1 N := fun N hN => Nat.le_trans hN (e1 N).2.1
  have g1' : ∀ N c, nx ≤ N → nx ≤ n1 N + c := fun N c hN => leA (g1 N hN)
  have hg := h.top
  refine sp_of rfl (run_wp Tryz.func15 rfl (by simp [Tryz.f15]) ?_)
  have hrest : ∀ v, (AR hp S nx v b) → ∃ z rows ka ga, (v = .vs z 1 rows ∨ v = .rs ka ga 0 b.length 1) := fun v hv => by
    rcases hv with ⟨z, a, _⟩ | ⟨ka, ga, a, _⟩
    · exact ⟨z, _, 0, 0, .inl a⟩
    · exact ⟨false, [], ka, ga, .inr a⟩
  cases hs : nameOk s with
  | false =>
    have hcr : d.append s b = (6, d) := by simp [Dk.append, Dk.at, hs]
    rw [hcr] at hQ
    simp [findR, hs] at e0
    simp [e0, Nat.add_assoc]
    refine hQ _ _ _ ?_
    exact ⟨rfl, quiet hS h (by simp [gf, gf'])⟩
  | true =>
    cases hfw : findW d.now s with
    | none =>
      have hcr : d.append s b = (40, d) := by simp [Dk.append, Dk.at, hs, hfw]
      rw [hcr] at hQ
      simp [findR, hs, hfw] at e0
      simp [e0, Nat.add_assoc]
      refine hQ _ _ _ ?_
      exact ⟨rfl, quiet hS h (by simp [gf, gf'])⟩
    | some j =>
      simp [findR, hs, hfw] at e0
      obtain ⟨hj, _⟩ := hI.found hfw
      obtain ⟨f, z1, z2, z3, z4⟩ := h.file j hj
      have hkφ : φ j ≠ k := ne_of_lk z2 h.top (by simp)
      have o1 : ∀ N, lk (h1 N) (φ j) = some (0, .cells [bv j, .i .i64 (f.fast : Nat)]) := fun N => by rw [(e1 N).2.2.ne hkφ]; exact z2
      have w1 : IntKind.i64.wrap ((d.used : Int) + (b.length : Int)) = (d.used : Int) + (b.length : Int) := wrap_i64 (by omega) (by omega)
      have hl : f.b.length ≤ 2 ^ 24 := (hI.file f (List.mem_of_getElem? z1)).1
      have hlv : lenOf v = some b.length := by
        rcases hv with ⟨z, a, _⟩ | ⟨ka, ga, a, _⟩
        · rw [a]; simp [lenOf]
        · rw [a]; simp [lenOf]
      by_cases hq : d.quota < d.used + b.length
      · have c1 : (d.quota : Int) < (d.used : Int) + (b.length : Int) := by omega
        have hcr : d.append s b = (42, d) := by simp [Dk.append, Dk.at, hs, hfw, hq]
        rw [hcr] at hQ
        rcases hv with ⟨z, rfl, _⟩ | ⟨ka, ga, rfl, _⟩
        · simp [e0, eu, hg, w1, c1, Nat.add_assoc]
          refine ⟨⟨by kernel_rfl, by kernel_rfl⟩, hQ _ _ _ ?_⟩
          exact ⟨rfl, quiet hS h (by simp [gf, gf'])⟩
        · simp [e0, eu, hg, w1, c1, Nat.add_assoc]
          refine ⟨⟨by kernel_rfl, by kernel_rfl⟩, hQ _ _ _ ?_⟩
          exact ⟨rfl, quiet hS h (by simp [gf, gf'])⟩
      have c1 : ¬ (d.quota : Int) < (d.used : Int) + (b.length : Int) := by omega
      have hbq : b.length ≤ 2 ^ 24 := by have := hI.quota; omega
      by_cases hd : d.dead = true
      · have hst : d.stops = true := by simp [Dk.stops, hd]
        have hs1 : d.stop1 = d := by simp [Dk.stop1, hd]
        have hcr : d.append s b = (44, d.stop1) := by simp [Dk.append, Dk.at, hs, hfw, hq, hd, hs1]
        rw [hcr] at hQ
        rw [hst, hd] at e1'
        rcases hv with ⟨z, rfl, _⟩ | ⟨ka, ga, rfl, _⟩
        · simp (maxDischargeDepth := 8) [e0, eu, hg, w1, c1, e1', Nat.add_assoc]
          refine ⟨⟨by kernel_rfl, by kernel_rfl⟩, hQ _ _ _ ?_⟩
          exact ⟨rfl, counted hS h (by simp [gf, g1, gf', g1']) (e1 _).2.2⟩
        · simp (maxDischargeDepth := 8) [e0, eu, hg, w1, c1, e1', Nat.add_assoc]
          refine ⟨⟨by kernel_rfl, by kernel_rfl⟩, hQ _ _ _ ?_⟩
          exact ⟨rfl, counted hS h (by simp [gf, g1, gf', g1']) (e1 _).2.2⟩
      have hd' : d.dead = false := by simpa using hd
      -- the bytes that go there, and how
      obtain ⟨b', e, hb', happ⟩ : ∃ (b' : Bs) (e : Int), (b' = if d.left = 1 then b.take (b.length / 2) else b) ∧ d.append s b = (if d.left = 1 then 44 else 0, d.stop1.put j b') := by
        by_cases hl1 : d.left = 1
        · exact ⟨_, 0, rfl, by simp [Dk.append, Dk.at, hs, hfw, hq, hd', hl1]⟩
        · exact ⟨_, 0, rfl, by simp [Dk.append, Dk.at, hs, hfw, hq, hd', hl1]⟩
      rw [happ] at hQ
      have hst : d.stops = (d.left == 1) := by simp [Dk.stops, hd']
      rw [hst, hd'] at e1'
      have hput : d.stop1.put j b' = d.stop1.setF j ⟨f.b ++ b', f.fast⟩ := by simp [Dk.put, file_eq z1]
      have hb'l : b'.length ≤ 2 ^ 24 := by rw [hb']; split <;> simp <;> omega
      -- three ends
      have p0 : b' = [] → ∀ N nx3, nx ≤ nx3 → PRep (up (h1 N) (φ j) (0, .cells [bv j, .i .i64 (f.fast : Nat)])) nx3 k (d.stop1.put j b') (grw S nx nx3) ∧ Frm S hp nx (up (h1 N) (φ j) (0, .cells [bv j, .i .i64 (f.fast : Nat)])) nx3 := fun hb0 N nx3 hx => by
        rw [hb0]; exact put_same hS h hj (e1 N).2.2 z1 hx
      have hφ1 := hS _ z3
      have q2 := quo2 b.length (by omega)
      have q2' : IntKind.i64.wrap ((b.length : Int) / 2) = (b.length : Int) / 2 := wrap_i64 (by omega) (by omega)
      have q3 : ((b.length : Int) / 2).toNat = b.length / 2 := by omega
      have q4 : 0 ≤ (b.length : Int) / 2 := by omega
      have fne : ∀ N c, nx ≤ N → ¬ φ j = n1 N + c := fun N c hN => by have := g1 N hN; omega
      have wrap0 : IntKind.i64.wrap 0 = 0 := by decide
      have wu : IntKind.i64.wrap (d.used : Int) = (d.used : Int) := wrap_i64 (by omega) (by omega)
      have c1' : ¬ (d.quota : Int) < (d.used : Int) := by omega
      have ka1 : ∀ ka ga, lk hp ka = some (ga, .arr 1 (byteRows b)) → ∀ N, lk (h1 N) ka = some (ga, .arr 1 (byteRows b)) := fun ka ga hk N => by rw [(e1 N).2.2.ne (ne_of_lk hk h.top (by simp))]; exact hk
      have p1 : f.b = [] → ∀ N a nx3, nx ≤ a → a < nx3 → PRep (up (up (h1 N) a (0, .arr 1 (byteRows b'))) (φ j) (0, .cells [.rs a 0 0 b'.length 1, .i .i64 (f.fast : Nat)])) nx3 k (d.stop1.put j b') (grw S nx nx3) ∧
          Frm S hp nx (up (up (h1 N) a (0, .arr 1 (byteRows b'))) (φ j) (0, .cells [.rs a 0 0 b'.length 1, .i .i64 (f.fast : Nat)])) nx3 := fun hf0 N a nx3 ha hx => by
        rw [hput, hf0, List.nil_append]; exact put_new (f := f) (f' := f) hS h hj (e1 N).2.2 ha hx f.fast
      have p2 : ∀ kb g, bv j = .rs kb g 0 f.b.length 1 → ∀ N nx3, nx ≤ nx3 → PRep (up (up (h1 N) kb (g + 1, .arr 1 (byteRows f.b ++ byteRows b'))) (φ j) (0, .cells [.rs kb (g + 1) 0 (f.b.length + b'.length) 1, .i .i64 (f.fast : Nat)])) nx3 k (d.stop1.put j b') (grw S nx nx3) ∧
          Frm S hp nx (up (up (h1 N) kb (g + 1, .arr 1 (byteRows f.b ++ byteRows b'))) (φ j) (0, .cells [.rs kb (g + 1) 0 (f.b.length + b'.length) 1, .i .i64 (f.fast : Nat)])) nx3 := fun kb g hbv N nx3 hx => by
        rw [hput, ← byteRows_app, ← List.length_append]; exact put_old hS h hj (e1 N).2.2 hbv hx f.fast
      have d1 : (f.b.length + b'.length) * 2 ≤ 68719476736 := by omega
      have d2 : b'.length * 2 ≤ 68719476736 := by omega
      have d3 : f.b.length * 2 ≤ 68719476736 := by omega
      have d4 : shown (byteRows f.b) 0 f.b.length = byteRows f.b := shown_all (by simp)
      have d5 : b.length / 2 ≤ b.length := by omega
      have xbc : (f.b = [] ∧ bv j = .vs true 0 []) ∨ ∃ kb g, bv j = .rs kb g 0 f.b.length 1 ∧ ∀ N, lk (h1 N) kb = some (g, .arr 1 (byteRows f.b)) ∧ kb ≠ φ j := by
        rcases z4 with ⟨xa, xb⟩ | ⟨kb, g, xa, xb, xc⟩
        · exact .inl ⟨by simpa [byteRows] using xa, xb⟩
        · refine .inr ⟨kb, g, by simpa using xa, fun N => ⟨?_, ne_of_lk xb z2 (by simp)⟩⟩
          rw [(e1 N).2.2.ne (ne_of_lk xb h.top (by simp))]; exact xb
      have vc : (v = .vs true 1 [] ∧ b = []) ∨ v = .vs false 1 (byteRows b) ∨ ∃ ka ga, v = .rs ka ga 0 b.length 1 ∧ ∀ N, lk (h1 N) ka = some (ga, .arr 1 (byteRows b)) := by
        rcases hv with ⟨z, a, c⟩ | ⟨ka, ga, a, c, _⟩
        · cases z with
          | true => have := c rfl; subst this; exact .inl ⟨a, rfl⟩
          | false => exact .inr (.inl a)
        · exact .inr (.inr ⟨ka, ga, a, ka1 ka ga c⟩)
      have tkall : (byteRows b).take b.length = byteRows b := List.take_of_length_le (by simp)
      by_cases hl1 : d.left = 1
      · have hb1 : b' = b.take (b.length / 2) := by rw [hb', if_pos hl1]
        simp only [hl1, if_true, if_false] at hQ
        rcases vc with ⟨hv1, hv2⟩ | hv1 | ⟨ka, ga, hv1, hka⟩
        · rw [hv1]
          have hb0 : b' = [] := by rw [hb1, hv2]; rfl
          rcases xbc with ⟨hx0, hx1⟩ | ⟨kb, g, hx1, hx2⟩
          · rw [hx1] at o1 p0
            simp (maxDischargeDepth := 8) [e0, eu, hg, w1, c1, e1', Nat.add_assoc, o1, hl1, lk_set, fne, gf, gf', mostB, d1, d2, d3, d4, q2', q3, q4, wrap0, wu, c1', d5, take_bytes, ← hb1, hv2, hb0]
            refine ⟨⟨by kernel_rfl, by kernel_rfl⟩, hQ _ _ _ ?_⟩
            exact ⟨rfl, p0 hb0 _ _ (by simp [gf, g1, gf', g1'])⟩
          · rw [hx1] at o1 p0
            have hkb := fun N => (hx2 N).1
            have hkb2 : kb ≠ φ j := (hx2 0).2
            simp (maxDischargeDepth := 8) [e0, eu, hg, w1, c1, e1', Nat.add_assoc, o1, hl1, lk_set, fne, gf, gf', mostB, d1, d2, d3, d4, q2', q3, q4, wrap0, wu, c1', d5, take_bytes, ← hb1, hkb, hkb2, hkb2.symm, hv2, hb0]
            refine ⟨⟨by kernel_rfl, by kernel_rfl⟩, hQ _ _ _ ?_⟩
            exact ⟨rfl, p0 hb0 _ _ (by simp [gf, g1, gf', g1'])⟩
        · rw [hv1]
          rcases xbc with ⟨hx0, hx1⟩ | ⟨kb, g, hx1, hx2⟩
          · rw [hx1] at o1 p0
            by_cases hb0 : b' = []
            · skip
              simp (maxDischargeDepth := 8) [e0, eu, hg, w1, c1, e1', Nat.add_assoc, o1, hl1, lk_set, fne, gf, gf', mostB, d1, d2, d3, d4, q2', q3, q4, wrap0, wu, c1', d5, take_bytes, ← hb1, hb0]
              refine ⟨⟨by kernel_rfl, by kernel_rfl⟩, hQ _ _ _ ?_⟩
              exact ⟨rfl, p0 hb0 _ _ (by simp [gf, g1, gf', g1'])⟩
            · skip
              simp (maxDischargeDepth := 8) [e0, eu, hg, w1, c1, e1', Nat.add_assoc, o1, hl1, lk_set, fne, gf, gf', mostB, d1, d2, d3, d4, q2', q3, q4, wrap0, wu, c1', d5, take_bytes, ← hb1, hb0]
              refine ⟨⟨by kernel_rfl, by kernel_rfl⟩, hQ _ _ _ ?_⟩
              exact ⟨rfl, p1 hx0 _ _ _ (by simp [gf, g1, gf', g1']) (by omega)⟩
          · rw [hx1] at o1 p0
            have hkb := fun N => (hx2 N).1
            have hkb2 : kb ≠ φ j := (hx2 0).2
            by_cases hb0 : b' = []
            · skip
              simp (maxDischargeDepth := 8) [e0, eu, hg, w1, c1, e1', Nat.add_assoc, o1, hl1, lk_set, fne, gf, gf', mostB, d1, d2, d3, d4, q2', q3, q4, wrap0, wu, c1', d5, take_bytes, ← hb1, hkb, hkb2, hkb2.symm, hb0]
              refine ⟨⟨by kernel_rfl, by kernel_rfl⟩, hQ _ _ _ ?_⟩
              exact ⟨rfl, p0 hb0 _ _ (by simp [gf, g1, gf', g1'])⟩
            · skip
              simp (maxDischargeDepth := 8) [e0, eu, hg, w1, c1, e1', Nat.add_assoc, o1, hl1, lk_set, fne, gf, gf', mostB, d1, d2, d3, d4, q2', q3, q4, wrap0, wu, c1', d5, take_bytes, ← hb1, hkb, hkb2, hkb2.symm, hb0]
              refine ⟨⟨by kernel_rfl, by kernel_rfl⟩, hQ _ _ _ ?_⟩
              exact ⟨rfl, p2 kb g hx1 _ _ (by simp [gf, g1, gf', g1'])⟩
        · rw [hv1]
          rcases xbc with ⟨hx0, hx1⟩ | ⟨kb, g, hx1, hx2⟩
          · rw [hx1] at o1 p0
            by_cases hb0 : b' = []
            · skip
              simp (maxDischargeDepth := 8) [e0, eu, hg, w1, c1, e1', Nat.add_assoc, o1, hl1, lk_set, fne, gf, gf', mostB, d1, d2, d3, d4, q2', q3, q4, wrap0, wu, c1', d5, take_bytes, ← hb1, hka, hb0]
              refine ⟨⟨by kernel_rfl, by kernel_rfl⟩, hQ _ _ _ ?_⟩
              exact ⟨rfl, p0 hb0 _ _ (by simp [gf, g1, gf', g1'])⟩
            · skip
              simp (maxDischargeDepth := 8) [e0, eu, hg, w1, c1, e1', Nat.add_assoc, o1, hl1, lk_set, fne, gf, gf', mostB, d1, d2, d3, d4, q2', q3, q4, wrap0, wu, c1', d5, take_bytes, ← hb1, hka, hb0]
              refine ⟨⟨by kernel_rfl, by kernel_rfl⟩, hQ _ _ _ ?_⟩
              exact ⟨rfl, p1 hx0 _ _ _ (by simp [gf, g1, gf', g1']) (by omega)⟩
          · rw [hx1] at o1 p0
            have hkb := fun N => (hx2 N).1
            have hkb2 : kb ≠ φ j := (hx2 0).2
            by_cases hb0 : b' = []
            · skip
              simp (maxDischargeDepth := 8) [e0, eu, hg, w1, c1, e1', Nat.add_assoc, o1, hl1, lk_set, fne, gf, gf', mostB, d1, d2, d3, d4, q2', q3, q4, wrap0, wu, c1', d5, take_bytes, ← hb1, hka, hkb, hkb2, hkb2.symm, hb0]
              refine ⟨⟨by kernel_rfl, by kernel_rfl⟩, hQ _ _ _ ?_⟩
              exact ⟨rfl, p0 hb0 _ _ (by simp [gf, g1, gf', g1'])⟩
            · skip
              simp (maxDischargeDepth := 8) [e0, eu, hg, w1, c1, e1', Nat.add_assoc, o1, hl1, lk_set, fne, gf, gf', mostB, d1, d2, d3, d4, q2', q3, q4, wrap0, wu, c1', d5, take_bytes, ← hb1, hka, hkb, hkb2, hkb2.symm, hb0]
              refine ⟨⟨by kernel_rfl, by kernel_rfl⟩, hQ _ _ _ ?_⟩
              exact ⟨rfl, p2 kb g hx1 _ _ (by simp [gf, g1, gf', g1'])⟩
      · have hb1 : b' = b := by rw [hb', if_neg hl1]
        have hl1' : (d.left == 1) = false := by simpa using hl1
        simp only [hl1, if_true, if_false] at hQ
        subst hb1
        rcases vc with ⟨hv1, hv2⟩ | hv1 | ⟨ka, ga, hv1, hka⟩
        · rw [hv1]
          have hb0 := hv2
          rcases xbc with ⟨hx0, hx1⟩ | ⟨kb, g, hx1, hx2⟩
          · rw [hx1] at o1 p0
            simp (maxDischargeDepth := 8) [e0, eu, hg, w1, c1, e1', Nat.add_assoc, o1, hl1, lk_set, fne, gf, gf', mostB, d1, d2, d3, d4, wu, c1', hl1', hv2, hb0]
            refine ⟨⟨by kernel_rfl, by kernel_rfl⟩, hQ _ _ _ ?_⟩
            exact ⟨rfl, p0 hb0 _ _ (by simp [gf, g1, gf', g1'])⟩
          · rw [hx1] at o1 p0
            have hkb := fun N => (hx2 N).1
            have hkb2 : kb ≠ φ j := (hx2 0).2
            simp (maxDischargeDepth := 8) [e0, eu, hg, w1, c1, e1', Nat.add_assoc, o1, hl1, lk_set, fne, gf, gf', mostB, d1, d2, d3, d4, wu, c1', hl1', hkb, hkb2, hkb2.symm, hv2, hb0]
            refine ⟨⟨by kernel_rfl, by kernel_rfl⟩, hQ _ _ _ ?_⟩
            exact ⟨rfl, p0 hb0 _ _ (by simp [gf, g1, gf', g1'])⟩
        · rw [hv1]
          rcases xbc with ⟨hx0, hx1⟩ | ⟨kb, g, hx1, hx2⟩
          · rw [hx1] at o1 p0
            by_cases hb0 : b' = []
            · skip
              simp (maxDischargeDepth := 8) [e0, eu, hg, w1, c1, e1', Nat.add_assoc, o1, hl1, lk_set, fne, gf, gf', mostB, d1, d2, d3, d4, wu, c1', hl1', tkall, hb0]
              refine ⟨⟨by kernel_rfl, by kernel_rfl⟩, hQ _ _ _ ?_⟩
              exact ⟨rfl, p0 hb0 _ _ (by simp [gf, g1, gf', g1'])⟩
            · skip
              simp (maxDischargeDepth := 8) [e0, eu, hg, w1, c1, e1', Nat.add_assoc, o1, hl1, lk_set, fne, gf, gf', mostB, d1, d2, d3, d4, wu, c1', hl1', tkall, hb0]
              refine ⟨⟨by kernel_rfl, by kernel_rfl⟩, hQ _ _ _ ?_⟩
              exact ⟨rfl, p1 hx0 _ _ _ (by simp [gf, g1, gf', g1']) (by omega)⟩
          · rw [hx1] at o1 p0
            have hkb := fun N => (hx2 N).1
            have hkb2 : kb ≠ φ j := (hx2 0).2
            by_cases hb0 : b' = []
            · skip
              simp (maxDischargeDepth := 8) [e0, eu, hg, w1, c1, e1', Nat.add_assoc, o1, hl1, lk_set, fne, gf, gf', mostB, d1, d2, d3, d4, wu, c1', hl1', tkall, hkb, hkb2, hkb2.symm, hb0]
              refine ⟨⟨by kernel_rfl, by kernel_rfl⟩, hQ _ _ _ ?_⟩
              exact ⟨rfl, p0 hb0 _ _ (by simp [gf, g1, gf', g1'])⟩
            · skip
              simp (maxDischargeDepth := 8) [e0, eu, hg, w1, c1, e1', Nat.add_assoc, o1, hl1, lk_set, fne, gf, gf', mostB, d1, d2, d3, d4, wu, c1', hl1', tkall, hkb, hkb2, hkb2.symm, hb0]
              refine ⟨⟨by kernel_rfl, by kernel_rfl⟩, hQ _ _ _ ?_⟩
              exact ⟨rfl, p2 kb g hx1 _ _ (by simp [gf, g1, gf', g1'])⟩
        · rw [hv1]
          rcases xbc with ⟨hx0, hx1⟩ | ⟨kb, g, hx1, hx2⟩
          · rw [hx1] at o1 p0
            by_cases hb0 : b' = []
            · skip
              simp (maxDischargeDepth := 8) [e0, eu, hg, w1, c1, e1', Nat.add_assoc, o1, hl1, lk_set, fne, gf, gf', mostB, d1, d2, d3, d4, wu, c1', hl1', hka, tkall, hb0]
              refine ⟨⟨by kernel_rfl, by kernel_rfl⟩, hQ _ _ _ ?_⟩
              exact ⟨rfl, p0 hb0 _ _ (by simp [gf, g1, gf', g1'])⟩
            · skip
              simp (maxDischargeDepth := 8) [e0, eu, hg, w1, c1, e1', Nat.add_assoc, o1, hl1, lk_set, fne, gf, gf', mostB, d1, d2, d3, d4, wu, c1', hl1', hka, tkall, hb0]
              refine ⟨⟨by kernel_rfl, by kernel_rfl⟩, hQ _ _ _ ?_⟩
              exact ⟨rfl, p1 hx0 _ _ _ (by simp [gf, g1, gf', g1']) (by omega)⟩
          · rw [hx1] at o1 p0
            have hkb := fun N => (hx2 N).1
            have hkb2 : kb ≠ φ j := (hx2 0).2
            by_cases hb0 : b' = []
            · skip
              simp (maxDischargeDepth := 8) [e0, eu, hg, w1, c1, e1', Nat.add_assoc, o1, hl1, lk_set, fne, gf, gf', mostB, d1, d2, d3, d4, wu, c1', hl1', hka, tkall, hkb, hkb2, hkb2.symm, hb0]
              refine ⟨⟨by kernel_rfl, by kernel_rfl⟩, hQ _ _ _ ?_⟩
              exact ⟨rfl, p0 hb0 _ _ (by simp [gf, g1, gf', g1'])⟩
            · skip
              simp (maxDischargeDepth := 8) [e0, eu, hg, w1, c1, e1', Nat.add_assoc, o1, hl1, lk_set, fne, gf, gf', mostB, d1, d2, d3, d4, wu, c1', hl1', hka, tkall, hkb, hkb2, hkb2.symm, hb0]
              refine ⟨⟨by kernel_rfl, by kernel_rfl⟩, hQ _ _ _ ?_⟩
              exact ⟨rfl, p2 kb g hx1 _ _ (by simp [gf, g1, gf', g1'])⟩

end Ab
end Go.Proofs.YtmbbnoipoifhhaaGreatDoor
