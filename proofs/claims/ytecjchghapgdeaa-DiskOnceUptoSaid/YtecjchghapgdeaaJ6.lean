/-
  DERIVED. One call on both disks of a pair: what is read; all of them.
  Conditions: enough rounds, enough depth; a disk of bounded size.
-/
import Derived.Test.YtecjchghapgdeaaJ5
set_option linter.all false
set_option maxHeartbeats 4000000
namespace Go.Proofs.Ytecjchghapgdeaa
namespace Ab
set_option maxRecDepth 100000
set_option maxHeartbeats 8000000
set_option linter.all false
attribute [local simp] wp_regW opsW_nil opsW_cons opsK_eq regK_no regK_draw oW_n oW_h oW_r oW_pn convA appendA appRow newsA isIntD makeSliceA elemOf rowsBuilt eqA eq1

/-- The rows that a slice shows at a heap. -/
theorem SV.rowsAt {sz : Nat} {hp : Hp} {S : Nat → Prop} {v : AV} {rows : List (List AV)} (h : SV sz hp S v rows) : ∀ env loc nx, rowsSz (St.get ⟨env, loc, hp, nx⟩) sz v = some rows := fun env loc nx => by
  rcases h with ⟨rfl, z, rfl⟩ | ⟨a, g, i0, all, rfl, h1, h2, h3, _⟩
  · rfl
  · simp [rowsSz, rowsOf, St.get, lkg, h1, h2, h3]

theorem look_len {d : Dk} {n : Nat} (h : d.Inv n) (s : Bs) : ((d.look s).2.getD ⟨[], 0⟩).b.length ≤ 2 ^ 24 := by
  unfold Dk.look
  split
  · simp
  · split
    · simp
    · exact h.filelen.1

theorem c_Does8 {K n m : Nat} (hK : big K) (hn : 5 ≤ n) {d : Dk} {hp : Hp} {nx x : Nat} {S : Nat → Prop} (hI : d.Inv m) (hm : m ≤ 2 ^ 20) (h : Pr hp nx x d S) (a : ActD) (ha : a.ok) (zb zk : Bool) (hk : a.kind = 8) :
    Sp K n 27 [.ptr x 0 0, .agg (actV a zb zk)] hp nx (DoesQ hp nx x S d) := by
  refine sp_cps fun Q hQ => ?_
  obtain ⟨n, rfl⟩ : ∃ m, n = m + 1 := ⟨n - 1, by omega⟩
  obtain ⟨p, q, Sp, Sq, h, hS⟩ := h
  have hn4 : 4 ≤ n := by omega
  have hn3 : 3 ≤ n := by omega
  refine sp_of rfl (run_wp Try.func27 rfl (by simp [Try.f27]) ?_)
  have hc := h.cell
  have hx := h.xlt
  have fx : ∀ c, ¬ x = nx + c := fun c => by omega
  have fx' : ∀ c, ¬ nx + c = x := fun c => by omega
  have hll := look_len hI a.name
  obtain ⟨X, hX⟩ : ∃ X, X = (d.look a.name).2.getD ⟨[], 0⟩ := ⟨_, rfl⟩
  simp [actV, hk, hc, Nat.add_assoc]
  have h' := h.add (nx' := nx + 50) (by omega)
  obtain ⟨hSp, mm, wv, ms, φ, bv, hP⟩ := h.prep
  refine (c_pRead hK (by omega) hI hP (fun j hj => by have := hSp j hj; omega) a.name).cW ?_
  rintro _ hp1 n1 ⟨g1, l1, v, rfl, sv1⟩
  have sv1' : SX 1 hp1 (fun j => nx ≤ j ∧ j < n1) v (byteRows X.b) := by
    rw [hX]
    cases hl : (d.look a.name).2 <;> (rw [hl] at sv1; exact sv1.mono (fun _ _ => rfl) fun j hj => ⟨by omega, hj.2⟩)
  have l1' : ∀ j, j < nx → lk hp1 j = lk hp j := fun j hj => l1 j (by omega)
  have hA := h.low (by omega : nx ≤ n1) l1'
  have ok1 : v.mv = true := sv1'.sv.mv
  simp [ok1, hA.cell]
  refine ⟨⟨by kernel_rfl, by simp [dynOk, pairsOk, befOf, Region.binds, Eff.apart, Eff.clear, Eff.wkeys, Ref.key, AV.refs0, List.range, List.range.loop, sameAt, hc, hA.cell]⟩, ?_⟩
  refine (c_dRead hK hn3 hI (by omega) (hA.add (by omega)).drep a.name ha.1).cW ?_
  rintro _ hpB n2 ⟨hE, g2, v', rfl, sv2⟩
  subst hE
  rw [← hX] at sv2
  have ok2 : v'.mv = true := sv2.mv
  obtain ⟨_, mm2, wv2, ms2, φ2, bv2, hP2⟩ := hA.prep
  simp [ok1, ok2, hA.cell]
  refine ⟨⟨by kernel_rfl, dyn_quiet (by simp [quietE])⟩, ?_⟩
  refine ((c_pSize hK hn3 hI hP2 a.name).mono (Q' := fun r h' n' => r = .tup [.i .i64 (X.b.length : Nat), .i .i64 (d.look a.name).1] ∧ h' = hpB ∧ _ ≤ n') fun r h' n' ⟨e1, e2, e3⟩ => ⟨by rw [e1, hX]; cases (d.look a.name).2 <;> rfl, e2, e3⟩).cW ?_
  rintro _ hpC n3 ⟨rfl, hE, g3⟩
  subst hE
  simp [ok1, ok2, hA.cell]
  refine ⟨⟨by kernel_rfl, dyn_quiet (by simp [quietE])⟩, ?_⟩
  refine ((c_pFast hK hn3 hI hP2 a.name).mono (Q' := fun r h' n' => r = .tup [.i .i64 (X.fast : Nat), .i .i64 (d.look a.name).1] ∧ h' = hpC ∧ _ ≤ n') fun r h' n' ⟨e1, e2, e3⟩ => ⟨by rw [e1, hX]; cases (d.look a.name).2 <;> rfl, e2, e3⟩).cW ?_
  rintro _ hpD n4 ⟨rfl, hE, g4⟩
  subst hE
  simp [ok1, ok2, hA.cell]
  refine ⟨⟨by kernel_rfl, dyn_quiet (by simp [quietE])⟩, ?_⟩
  refine (c_dFast hK hn3 hI (by omega) (hA.add (by omega)).drep a.name ha.1).cW ?_
  rintro _ hpE n5 ⟨hE, g5, rfl⟩
  subst hE
  rw [← hX]
  have r1 := sv1'.sv.rowsAt
  have r2 := sv2.rowsAt
  have b1 : bytesOf (byteRows X.b) = some X.b := bytesOf_rows _
  have len2 := sv2.len'
  simp [ok1, ok2, hA.cell, r1, r2, b1, lenA_sl, len2]
  refine ⟨⟨by kernel_rfl, dyn_quiet (by simp [quietE])⟩, ?_⟩
  have hbr : ∀ r ∈ byteRows X.b, r.length = 1 := fun r hr => by simp [byteRows] at hr; obtain ⟨_, _, rfl⟩ := hr; rfl
  rw [← hX] at hll
  rcases sv1' with ⟨_, rfl⟩ | ⟨kv, gv, rfl, w1, w2⟩
  · refine (c_spoil0 hK (by omega)).cW ?_
    rintro _ hpF n6 ⟨g6, f6⟩
    simp
    refine hQ _ _ _ ⟨rfl, h.still hS (by omega) fun j hj => (f6 j (by omega)).trans (l1' j hj)⟩
  · refine (c_spoil hK (by omega) (by omega) w1 rfl (by simp; omega) hbr).cW ?_
    rintro _ hpF n6 ⟨g6, f6⟩
    simp
    refine hQ _ _ _ ⟨rfl, h.still hS (by omega) fun j hj => (f6 j (by omega) (by omega)).trans (l1' j hj)⟩

theorem c_DoesX {K n : Nat} (hn : 5 ≤ n) {d : Dk} {hp : Hp} {nx x : Nat} {S : Nat → Prop} (h : Pr hp nx x d S) (a : ActD) (zb zk : Bool) (h0 : a.kind ≠ 0) (h1 : a.kind ≠ 1) (h2 : a.kind ≠ 2) (h3 : a.kind ≠ 3) (h4 : a.kind ≠ 4) (h5 : a.kind ≠ 5) (h6 : a.kind ≠ 6) (h7 : a.kind ≠ 7) (h8 : a.kind ≠ 8) (h10 : a.kind ≠ 10) :
    Sp K n 27 [.ptr x 0 0, .agg (actV a zb zk)] hp nx (DoesQ hp nx x S d) := by
  refine sp_cps fun Q hQ => ?_
  obtain ⟨n, rfl⟩ : ∃ m, n = m + 1 := ⟨n - 1, by omega⟩
  obtain ⟨p, q, Sp, Sq, h, hS⟩ := h
  refine sp_of rfl (run_wp Try.func27 rfl (by simp [Try.f27]) ?_)
  have b0 : (a.kind == 0) = false := by simpa using h0
  have b1 : (a.kind == 1) = false := by simpa using h1
  have b2 : (a.kind == 2) = false := by simpa using h2
  have b3 : (a.kind == 3) = false := by simpa using h3
  have b4 : (a.kind == 4) = false := by simpa using h4
  have b5 : (a.kind == 5) = false := by simpa using h5
  have b6 : (a.kind == 6) = false := by simpa using h6
  have b7 : (a.kind == 7) = false := by simpa using h7
  have b8 : (a.kind == 8) = false := by simpa using h8
  have b10 : (a.kind == 10) = false := by simpa using h10
  simp [actV, b0, b1, b2, b3, b4, b5, b6, b7, b8, b10]
  exact hQ _ _ _ ⟨rfl, h.still hS (by omega) fun _ _ => rfl⟩

/-- One call on both. -/
theorem c_Does {K n m : Nat} (hK : big K) (hn : 5 ≤ n) {d : Dk} {hp : Hp} {nx x : Nat} {S : Nat → Prop} (hI : d.Inv m) (hm : m ≤ 2 ^ 20) (h : Pr hp nx x d S) (a : ActD) (ha : a.ok) (hbl : a.b.length ≤ 2 ^ 25) (zb zk : Bool) (hzb : zb = true → a.b = []) (hzk : zk = true → a.keeps = []) :
    Sp K n 27 [.ptr x 0 0, .agg (actV a zb zk)] hp nx (DoesQ hp nx x S (d.does a)) := by
  by_cases h0 : a.kind = 0
  · have : d.does a = (d.create a.name).2 := by simp [Dk.does, h0]
    rw [this]; exact c_Does0 hK hn hI hm h a ha zb zk h0
  by_cases h1 : a.kind = 1
  · have : d.does a = (d.append a.name a.b).2 := by simp [Dk.does, h1]
    rw [this]; exact c_Does1 hK hn hI hm h a ha zb zk hzb hbl h1
  by_cases h2 : a.kind = 2
  · have : d.does a = (d.cut a.name a.n).2 := by simp [Dk.does, h2]
    rw [this]; exact c_Does2 hK hn hI hm h a ha zb zk h2
  by_cases h3 : a.kind = 3
  · have : d.does a = (d.rename a.name a.to).2 := by simp [Dk.does, h3]
    rw [this]; exact c_Does3 hK hn hI hm h a ha zb zk h3
  by_cases h4 : a.kind = 4
  · have : d.does a = (d.remove a.name).2 := by simp [Dk.does, h4]
    rw [this]; exact c_Does4 hK hn hI hm h a ha zb zk h4
  by_cases h5 : a.kind = 5
  · have : d.does a = (d.sync a.name).2 := by simp [Dk.does, h5]
    rw [this]; exact c_Does5 hK hn hI hm h a ha zb zk h5
  by_cases h6 : a.kind = 6
  · have : d.does a = d.syncNames.2 := by simp [Dk.does, h6]
    rw [this]; exact c_Does6 hK hn hI hm h a ha zb zk h6
  by_cases h10 : a.kind = 10
  · have : d.does a = d.stop a.n := by simp [Dk.does, h10]
    rw [this]; exact c_Does10 hK hn hI hm h a ha zb zk h10
  by_cases h7 : a.kind = 7
  · have : d.does a = d.crash a.keeps a.n := by simp [Dk.does, h7]
    rw [this]; exact c_Does7 hK hn hI hm h a ha zb zk hzk h7
  have hd : d.does a = d := by simp [Dk.does, h0, h1, h2, h3, h4, h5, h6, h10, h7]
  rw [hd]
  by_cases h8 : a.kind = 8
  · exact c_Does8 hK hn hI hm h a ha zb zk h8
  · exact c_DoesX hn h a zb zk h0 h1 h2 h3 h4 h5 h6 h7 h8 h10

end Ab
end Go.Proofs.Ytecjchghapgdeaa
