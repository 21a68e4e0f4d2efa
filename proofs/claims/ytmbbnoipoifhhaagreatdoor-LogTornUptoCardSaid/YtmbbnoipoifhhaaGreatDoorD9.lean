/-
  DERIVED. The program's disk, call by call: SyncNames, Stop, Append, Cut; slices.Clone of bytes.
  Conditions: enough rounds, enough depth; a disk of bounded size.
-/
import Derived.Test.YtmbbnoipoifhhaaGreatDoorD8
set_option linter.all false
set_option maxHeartbeats 4000000
namespace Go.Proofs.YtmbbnoipoifhhaaGreatDoor
namespace Ab
set_option maxRecDepth 100000
set_option maxHeartbeats 4000000
set_option linter.all false
attribute [local simp] wp_region regionA opsA nCall rCall goCallR pCall pnCall lenA appendA appRow newsA rowsSz rowsOf isIntD makeSliceA elemOf rowsBuilt eqA eq1

/-- One of the ways alone. -/
theorem PDk.pick {hp hp' : Hp} {k m m' j : Nat} {wv : AV} {ms : List Nat} {φ : Nat → Nat} {bv : Nat → AV} {d d' : Dk} {S S' : Nat → Prop} {w' : Way} (h : PDk hp k m wv ms φ bv d S) (hne : d.ways ≠ []) (hS : ∀ j, S j → S' j) (hm' : (ms ++ [m])[j]? = some m') (hw' : d.ways[j]? = some w')
    (hways : d'.ways = [w']) (hfiles : d'.files = d.files) (htop : lk hp' k = some (0, .cells [.i .i64 (d'.quota : Nat), .mp (some m'), .vs true 0 [], .i .i64 d'.stopC])) (hkeep : ∀ j, S j → j ≠ k → lk hp' j = lk hp j) :
    PDk hp' k m' (.vs true 0 []) [] φ bv d' S' := by
  have hwl : d.ways.length = ms.length + 1 := h.waslen.symm
  have hmp : Mp hp φ m' w' ∧ S m' := by
    by_cases hj : j < ms.length
    · rw [List.getElem?_append_left hj] at hm'
      exact h.ways j m' w' hm' hw'
    · rw [List.getElem?_append_right (by omega)] at hm'
      have hj2 : j = ms.length := by
        have := (List.getElem?_eq_some_iff.1 hm').1
        simp at this; omega
      subst hj2
      simp at hm'
      subst hm'
      have : d.ways[ms.length]? = some d.now := by
        rw [show ms.length = d.ways.length - 1 by omega, ← List.getLast?_eq_getElem?]
        unfold Dk.now
        cases hw : d.ways.getLast? with
        | none => exact absurd (List.getLast?_eq_none_iff.1 hw) hne
        | some x => simp [List.getLastD_eq_getLast?, hw]
      rw [this] at hw'
      cases hw'
      exact ⟨h.now, h.nowS⟩
  have hasE : ∀ i, d'.Has i → d.Has i := fun i ⟨w, a, b⟩ => by
    rw [hways] at a
    simp at a
    subst a
    exact ⟨w, List.mem_of_getElem? hw', b⟩
  have sx : ∀ v rows, SX 1 hp S v rows → SX 1 hp' S' v rows := fun v rows hv => by
    rcases hv with h1 | ⟨kw, g, h1, h2, h3⟩
    · exact .inl h1
    · exact .inr ⟨kw, g, h1, by rw [hkeep kw h3 (ne_of_lk h2 h.top (by simp))]; exact h2, hS _ h3⟩
  refine ⟨htop, hS k h.topS, ?_, hS _ hmp.2, .inl ⟨rfl, rfl⟩, by rw [hways]; rfl, fun j mj w h1 _ => by simp at h1, fun i hi => ?_, fun i j hi hj => h.inj i j (hasE i hi) (hasE j hj), fun i j kb g n g' n' hi hj => h.binj i j kb g n g' n' (hasE i hi) (hasE j hj), fun i kb g n g' n' hi h1 h2 => by cases h2⟩
  · have : d'.now = w' := by simp [Dk.now, hways]
    rw [this]
    obtain ⟨⟨es, a, b⟩, c⟩ := hmp
    exact ⟨es, by rw [hkeep m' c (ne_of_lk a h.top (by simp))]; exact a, b⟩
  · obtain ⟨f, a1, a2, a3, a4⟩ := h.file i (hasE i hi)
    exact ⟨f, by rw [hfiles]; exact a1, by rw [hkeep _ a3 (ne_of_lk a2 h.top (by simp))]; exact a2, hS _ a3, sx _ _ a4⟩

theorem now_at {d : Dk} (hne : d.ways ≠ []) : d.ways[d.ways.length - 1]? = some d.now := by
  rw [← List.getLast?_eq_getElem?]
  unfold Dk.now
  cases hw : d.ways.getLast? with
  | none => exact absurd (List.getLast?_eq_none_iff.1 hw) hne
  | some x => simp [List.getLastD_eq_getLast?, hw]

theorem c_pSyncNames {K n N : Nat} (hn : 2 ≤ n) {d : Dk} {k : Nat} {hp : Hp} {nx : Nat} {S : Nat → Prop} (hI : d.Inv N) (h : PRep hp nx k d S) :
    Sp K n 51 [.ptr k 0 0] hp nx fun r hp' nx' => r = .i .i64 d.syncNames.1 ∧ PRep hp' nx' k d.syncNames.2 (grw S nx nx') ∧ Frm S hp nx hp' nx' := by
  refine sp_cps fun Q hQ => ?_
  obtain ⟨n, rfl⟩ : ∃ m, n = m + 1 := ⟨n - 1, by omega⟩
  obtain ⟨hS, m, wv, ms, φ, bv, h⟩ := h
  obtain ⟨h1, n1, e1⟩ := f_changes (K := K) (n := n) (by omega) hI h
  have e1' := fun N => (e1 N).1
  have g1 : ∀ N, nx ≤ N → nx ≤ n1 N := fun N hN => Nat.le_trans hN (e1 N).2.1
  have g1' : ∀ N c, nx ≤ N → nx ≤ n1 N + c := fun N c hN => leA (g1 N hN)
  have o1 := fun N => ((e1 N).2.2.pdk h).top
  simp only [stop1_quota] at o1
  refine sp_of rfl (run_wp Tryz.func51 rfl (by simp [Tryz.f51]) ?_)
  cases hst : d.stops with
  | true =>
    rw [hst] at e1'
    have hcr : d.syncNames = (44, d.stop1) := by simp [Dk.syncNames, Dk.goes, hst]
    rw [hcr] at hQ
    simp [e1', Nat.add_assoc]
    refine hQ _ _ _ ?_
    exact ⟨rfl, counted hS h (by simp [g1, g1']) (e1 _).2.2⟩
  | false =>
    rw [hst] at e1'
    have hcr : d.syncNames = (0, { d.stop1 with ways := [d.now] }) := by simp [Dk.syncNames, Dk.goes, hst]
    rw [hcr] at hQ
    simp [e1', Nat.add_assoc, o1]
    refine hQ _ _ _ ?_
    have key : ∀ N nx3, nx ≤ nx3 → PRep (up (h1 N) k (0, .cells [.i .i64 (d.quota : Nat), .mp (some m), .vs true 0 [], .i .i64 d.stop1.stopC])) nx3 k { d.stop1 with ways := [d.now] } (grw S nx nx3) ∧ Frm S hp nx (up (h1 N) k (0, .cells [.i .i64 (d.quota : Nat), .mp (some m), .vs true 0 [], .i .i64 d.stop1.stopC])) nx3 := fun N nx3 hx => by
      refine ⟨⟨fun j hj => hj.elim (fun h => by have := hS j h; omega) fun h => h.2, m, .vs true 0 [], [], φ, bv, ?_⟩, hx, fun j hj hn => ?_⟩
      · refine PDk.pick (j := d.ways.length - 1) (w' := d.now) ((e1 N).2.2.pdk h) (by simpa using hI.ne) (fun _ h => .inl h) ?_ (by simpa using now_at hI.ne) rfl rfl ?_ (fun j hj hne => by rw [lk_set, if_neg hne])
        · rw [show d.ways.length - 1 = ms.length by have := h.waslen; omega]; simp
        · rw [lk_set, if_pos rfl]; simp [Dk.stopC]
      · rw [lk_set, if_neg (fun e => hn (by rw [e]; exact h.topS)), (e1 N).2.2.ne (fun e => hn (by rw [e]; exact h.topS))]
    exact ⟨rfl, key _ _ (by simp [g1, g1'])⟩

theorem take_bytes (b : Bs) (n : Nat) : (byteRows b).take n = byteRows (b.take n) := (byteRows_take b n).symm

/-- slices.Clone of frozen bytes. -/
theorem shown_nil : shown [] 0 0 = [] := shown_all rfl
theorem c_sclone {K n nx : Nat} (hn : 1 ≤ n) (b : Bs) (hb : b.length ≤ 2 ^ 30) :
    callA cfg K n 43 [.vs false 1 (byteRows b)] [] nx = some (.rs (nx + 3) (if b = [] then 0 else 1) 0 b.length 1, [(nx + 3, (if b = [] then 0 else 1, .arr 1 (byteRows b)))], nx + 7) := by
  obtain ⟨n, rfl⟩ : ∃ m, n = m + 1 := ⟨n - 1, by omega⟩
  have d1 : b.length * 2 ≤ 68719476736 := by omega
  have : Sp K (n + 1) 43 [.vs false 1 (byteRows b)] [] nx fun r hp' nx' => r = .rs (nx + 3) (if b = [] then 0 else 1) 0 b.length 1 ∧ hp' = [(nx + 3, (if b = [] then 0 else 1, .arr 1 (byteRows b)))] ∧ nx' = nx + 7 := by
    refine sp_cps fun Q hQ => ?_
    refine sp_of rfl (run_wp Tryz.func43 rfl (by simp [Tryz.f43]) ?_)
    by_cases hb : b = []
    · subst hb
      simp [mostB, byteRows]
      exact hQ _ _ _ ⟨rfl, rfl, rfl⟩
    · have : ¬ b.length = 0 := by simpa using hb
      simp [mostB, this, d1, shown_nil]
      refine hQ _ _ _ ⟨by simp [hb], by simp [hb], rfl⟩
  obtain ⟨r, hp', nx', h1, h2, h3, h4⟩ := this
  rw [h1, h2, h3, h4]
theorem c_sclone0 {K n nx : Nat} (hn : 1 ≤ n) (z : Nat) : callA cfg K n 43 [.vs true z []] [] nx = some (.vs true 0 [], [], nx + 4) := by
  obtain ⟨n, rfl⟩ : ∃ m, n = m + 1 := ⟨n - 1, by omega⟩
  have : Sp K (n + 1) 43 [.vs true z []] [] nx fun r hp' nx' => r = .vs true 0 [] ∧ hp' = [] ∧ nx' = nx + 4 := by
    refine sp_cps fun Q hQ => ?_
    refine sp_of rfl (run_wp Tryz.func43 rfl (by simp [Tryz.f43]) ?_)
    simp
    exact hQ _ _ _ ⟨rfl, rfl, rfl⟩
  obtain ⟨r, hp', nx', h1, h2, h3, h4⟩ := this
  rw [h1, h2, h3, h4]

/-- Frozen bytes are bytes. -/
theorem frz_bytes {get : Ref → Option AO} {n : Nat} (b : Bs) : mapO (mapO (frz get (n + 1))) (byteRows b) = some (byteRows b) := by
  induction b with
  | nil => rfl
  | cons c b ih =>
    simp only [byteRows, List.map_cons, mapO, frz_i, Option.map_some] at ih ⊢
    rw [ih]
    rfl

/-- Bytes that are handed in. -/
def AR (hp : Hp) (S : Nat → Prop) (nx : Nat) (v : AV) (b : Bs) : Prop :=
  (∃ z, v = .vs z 1 (byteRows b) ∧ (z = true → b = [])) ∨ ∃ ka ga, v = .rs ka ga 0 b.length 1 ∧ lk hp ka = some (ga, .arr 1 (byteRows b)) ∧ ¬ S ka ∧ ka < nx

/-- A file with bytes behind its own: as it was. -/
theorem put_same {nx nx3 k m i : Nat} {d : Dk} {wv : AV} {ms : List Nat} {φ : Nat → Nat} {bv : Nat → AV} {hp hp1 : Hp} {S : Nat → Prop} {f : Fl} (hS : ∀ j, S j → j < nx) (h : PDk hp k m wv ms φ bv d S) (hi : d.Has i)
    (ho : Only k (.cells [.i .i64 (d.quota : Nat), .mp (some m), wv, .i .i64 d.stop1.stopC]) hp hp1) (hf : d.files[i]? = some f) (hx : nx ≤ nx3) :
    PRep (up hp1 (φ i) (0, .cells [bv i, .i .i64 (f.fast : Nat)])) nx3 k (d.stop1.put i []) (grw S nx nx3) ∧ Frm S hp nx (up hp1 (φ i) (0, .cells [bv i, .i .i64 (f.fast : Nat)])) nx3 := by
  obtain ⟨f0, z1, z2, z3, z4⟩ := h.file i hi
  rw [hf] at z1; cases z1
  have e : d.stop1.put i [] = d.stop1.setF i f := by simp [Dk.put, file_eq hf]
  rw [e]
  refine turn_end hS h hi ho (by rw [lk_set, if_pos rfl]) hx ?_ (fun kb g n e => .inr ⟨g, n, e⟩) (fun i hi a b => by rw [lk_set, if_neg a])
  rcases z4 with ⟨a, b⟩ | ⟨kb, g, a, b, c⟩
  · exact .inl ⟨a, b⟩
  · refine .inr ⟨kb, g, a, ?_, .inl c⟩
    rw [lk_set, if_neg (ne_of_lk b z2 (by simp)), ho.ne (ne_of_lk b h.top (by simp))]
    exact b
/-- .. its first bytes. -/
theorem put_new {nx nx3 k m i a g : Nat} {d : Dk} {wv : AV} {ms : List Nat} {φ : Nat → Nat} {bv : Nat → AV} {hp hp1 : Hp} {S : Nat → Prop} {f f' : Fl} {b : Bs} (hS : ∀ j, S j → j < nx) (h : PDk hp k m wv ms φ bv d S) (hi : d.Has i)
    (ho : Only k (.cells [.i .i64 (d.quota : Nat), .mp (some m), wv, .i .i64 d.stop1.stopC]) hp hp1) (hx : nx ≤ a) (hx2 : a < nx3) (fast : Nat) :
    PRep (up (up hp1 a (g, .arr 1 (byteRows b))) (φ i) (0, .cells [.rs a g 0 b.length 1, .i .i64 (fast : Nat)])) nx3 k (d.stop1.setF i ⟨b, fast⟩) (grw S nx nx3) ∧
    Frm S hp nx (up (up hp1 a (g, .arr 1 (byteRows b))) (φ i) (0, .cells [.rs a g 0 b.length 1, .i .i64 (fast : Nat)])) nx3 := by
  obtain ⟨f0, z1, z2, z3, z4⟩ := h.file i hi
  have hφ := hS _ z3
  refine turn_end hS h hi ho (f' := ⟨b, fast⟩) (v' := .rs a g 0 b.length 1) (by rw [lk_set, if_pos rfl]) (by omega) (.inr ⟨a, g, by simp, by rw [lk_set, if_neg (by omega), lk_set, if_pos rfl], .inr ⟨hx, hx2⟩⟩) (fun kb g n e => by cases e; exact .inl hx) (fun j hj h1 h2 => by rw [lk_set, if_neg h1, lk_set, if_neg (by omega)])
/-- .. in its own array. -/
theorem put_old {nx nx3 k m i kb g g' : Nat} {d : Dk} {wv : AV} {ms : List Nat} {φ : Nat → Nat} {bv : Nat → AV} {hp hp1 : Hp} {S : Nat → Prop} {b : Bs} {n0 : Nat} (hS : ∀ j, S j → j < nx) (h : PDk hp k m wv ms φ bv d S) (hi : d.Has i)
    (ho : Only k (.cells [.i .i64 (d.quota : Nat), .mp (some m), wv, .i .i64 d.stop1.stopC]) hp hp1) (hbv : bv i = .rs kb g 0 n0 1) (hx : nx ≤ nx3) (fast : Nat) :
    PRep (up (up hp1 kb (g', .arr 1 (byteRows b))) (φ i) (0, .cells [.rs kb g' 0 b.length 1, .i .i64 (fast : Nat)])) nx3 k (d.stop1.setF i ⟨b, fast⟩) (grw S nx nx3) ∧
    Frm S hp nx (up (up hp1 kb (g', .arr 1 (byteRows b))) (φ i) (0, .cells [.rs kb g' 0 b.length 1, .i .i64 (fast : Nat)])) nx3 := by
  obtain ⟨f0, z1, z2, z3, z4⟩ := h.file i hi
  have hkb : kb ≠ φ i ∧ S kb := by
    rcases z4 with ⟨_, a⟩ | ⟨kb', g2, a, b, c⟩
    · rw [a] at hbv; cases hbv
    · rw [a] at hbv; cases hbv
      exact ⟨ne_of_lk b z2 (by simp), c⟩
  refine turn_end hS h hi ho (f' := ⟨b, fast⟩) (v' := .rs kb g' 0 b.length 1) (by rw [lk_set, if_pos rfl]) (by omega) (.inr ⟨kb, g', by simp, by rw [lk_set, if_neg hkb.1, lk_set, if_pos rfl], .inl hkb.2⟩) (fun kb2 g2 n e => by cases e; exact .inr ⟨g, n0, hbv⟩) (fun j hj h1 h2 => by rw [lk_set, if_neg h1, lk_set, if_neg (fun e => h2 g n0 (by rw [e]; exact hbv))])

end Ab
end Go.Proofs.YtmbbnoipoifhhaaGreatDoor
