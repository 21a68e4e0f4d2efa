/-
  DERIVED. The program's disk, call by call: Create, Append, Cut, Rename, Remove, Sync, SyncNames, Stop, New.
  Conditions: enough rounds, enough depth; a disk of bounded size.
-/
import Derived.Test.YtmbbnoipoifhhaaGreatDoorD5
set_option linter.all false
set_option maxHeartbeats 4000000
namespace Go.Proofs.YtmbbnoipoifhhaaGreatDoor
namespace Ab
set_option maxRecDepth 100000
set_option maxHeartbeats 4000000
set_option linter.all false
attribute [local simp] wp_region regionA opsA nCall rCall goCallR pCall pnCall lenA appendA appRow newsA rowsSz rowsOf isIntD makeSliceA elemOf rowsBuilt eqA eq1

/-- Calls at whatever heap: by functions of the heap. -/
theorem sk {K n : Nat} {g : FuncId} {args : List AV} {P : Hp → Nat → Prop} {Q : Hp → Nat → AV → Hp → Nat → Prop} (h : ∀ H N, P H N → Sp K n g args H N (Q H N)) :
    ∃ (r : Hp → Nat → AV) (h' : Hp → Nat → Hp) (n' : Hp → Nat → Nat), ∀ H N, P H N → callA cfg K n g args H N = some (r H N, h' H N, n' H N) ∧ Q H N (r H N) (h' H N) (n' H N) := by
  refine ⟨fun H N => ((callA cfg K n g args H N).getD (.undef, [], 0)).1, fun H N => ((callA cfg K n g args H N).getD (.undef, [], 0)).2.1, fun H N => ((callA cfg K n g args H N).getD (.undef, [], 0)).2.2, fun H N hp => ?_⟩
  obtain ⟨r, h', n', h1, h2⟩ := h H N hp
  simp only [h1, Option.getD_some]
  exact ⟨trivial, h2⟩

theorem sk' {K n : Nat} {g : FuncId} {args : List AV} {X : Type} [Inhabited X] {P : Hp → Nat → Prop} {Q : Hp → Nat → AV → Hp → Nat → X → Prop} (h : ∀ H N, P H N → Sp K n g args H N fun r h' n' => ∃ x, Q H N r h' n' x) :
    ∃ (r : Hp → Nat → AV) (h' : Hp → Nat → Hp) (n' : Hp → Nat → Nat) (x : Hp → Nat → X), ∀ H N, P H N → callA cfg K n g args H N = some (r H N, h' H N, n' H N) ∧ Q H N (r H N) (h' H N) (n' H N) (x H N) := by
  obtain ⟨r, h', n', h1⟩ := sk h
  classical
  refine ⟨r, h', n', fun H N => if hx : ∃ x, Q H N (r H N) (h' H N) (n' H N) x then hx.choose else default, fun H N hp => ⟨(h1 H N hp).1, ?_⟩⟩
  have hx := (h1 H N hp).2
  simp only [dif_pos hx]
  exact hx.choose_spec

@[simp] theorem stop1_ways (d : Dk) : d.stop1.ways = d.ways := by unfold Dk.stop1; split <;> (try split) <;> (try split) <;> rfl
@[simp] theorem stop1_files (d : Dk) : d.stop1.files = d.files := by unfold Dk.stop1; split <;> (try split) <;> (try split) <;> rfl
@[simp] theorem stop1_quota (d : Dk) : d.stop1.quota = d.quota := by unfold Dk.stop1; split <;> (try split) <;> (try split) <;> rfl
@[simp] theorem stop1_now (d : Dk) : d.stop1.now = d.now := by simp [Dk.now]
@[simp] theorem stop1_file (d : Dk) (i : Nat) : d.stop1.file i = d.file i := by simp [Dk.file]

theorem Dk.Inv.now {d : Dk} {n : Nat} (h : d.Inv n) : d.now ∈ d.ways := by
  unfold Dk.now
  rw [List.getLastD_eq_getLast?]
  cases hw : d.ways.getLast? with
  | none => exact absurd (List.getLast?_eq_none_iff.1 hw) h.ne
  | some x => exact List.mem_of_getLast? hw
theorem Dk.Inv.rising {d : Dk} {n : Nat} (h : d.Inv n) : Rising d.now := (h.way _ h.now).2.1
theorem Dk.Inv.nowlen {d : Dk} {n : Nat} (h : d.Inv n) : d.now.length ≤ 64 := (h.way _ h.now).1
theorem Dk.Inv.found {d : Dk} {n i : Nat} {s : Bs} (h : d.Inv n) (hf : findW d.now s = some i) : d.Has i ∧ i < d.files.length := by
  have := find_mem hf
  exact ⟨⟨d.now, h.now, _, this, rfl⟩, ((h.way _ h.now).2.2 _ this).1⟩
theorem Dk.Inv.filelen {d : Dk} {n i : Nat} (h : d.Inv n) : (d.file i).b.length ≤ 2 ^ 24 ∧ (d.file i).fast ≤ (d.file i).b.length := by
  unfold Dk.file
  cases hf : d.files[i]? with
  | none => exact ⟨Nat.zero_le _, Nat.zero_le _⟩
  | some f => exact h.file f (List.mem_of_getElem? hf)
theorem file_eq {d : Dk} {i : Nat} {f : Fl} (h : d.files[i]? = some f) : d.file i = f := by simp [Dk.file, h]
theorem sum_le {l : List Nat} {b : Nat} (h : ∀ x ∈ l, x ≤ b) : l.sum ≤ l.length * b := by
  induction l with
  | nil => simp
  | cons x r ih =>
    have h1 := h x (List.mem_cons_self ..)
    have h2 := ih fun y hy => h y (List.mem_cons_of_mem _ hy)
    simp only [List.sum_cons, List.length_cons, Nat.add_mul]
    omega
theorem Dk.Inv.used {d : Dk} {n : Nat} (h : d.Inv n) : d.used ≤ 64 * 2 ^ 24 := by
  have h1 : d.used ≤ d.now.length * 2 ^ 24 := by
    have := sum_le (l := d.now.map fun e => (d.file e.2).b.length) (b := 2 ^ 24) (fun x hx => by
      obtain ⟨e, _, rfl⟩ := List.mem_map.1 hx
      exact h.filelen.1)
    simpa [Dk.used] using this
  have h2 := Nat.mul_le_mul_right (2 ^ 24) h.nowlen
  exact Nat.le_trans h1 h2

/-- What is found. -/
theorem f_find {K n N : Nat} (hK : big K) (hn : 2 ≤ n) {d : Dk} {k m : Nat} {wv : AV} {ms : List Nat} {φ : Nat → Nat} {bv : Nat → AV} {hp : Hp} {S : Nat → Prop} (hI : d.Inv N) (h : PDk hp k m wv ms φ bv d S) (s : Bs) :
    ∃ nf : Nat → Nat, ∀ nx, callA cfg K n 42 [.ptr k 0 0, .s (ba s)] hp nx = some (findR d φ s, hp, nf nx) ∧ nx ≤ nf nx := by
  obtain ⟨es, hm, hp'⟩ := h.now
  refine ⟨fun nx => ((callA cfg K n 42 [.ptr k 0 0, .s (ba s)] hp nx).getD (.undef, [], 0)).2.2, fun nx => ?_⟩
  obtain ⟨r, h', n', h1, h2, h3, h4⟩ := c_find hK hn d k m _ _ _ es φ hp nx h.top hm hp' hI.rising s
  subst h2 h4
  simp only [h1, Option.getD_some]
  exact ⟨trivial, h3⟩

theorem f_used {K n N : Nat} (hn : 1 ≤ n) {d : Dk} {k m : Nat} {wv : AV} {ms : List Nat} {φ : Nat → Nat} {bv : Nat → AV} {hp : Hp} {S : Nat → Prop} (hI : d.Inv N) (h : PDk hp k m wv ms φ bv d S) :
    ∀ nx, callA cfg K n 47 [.ptr k 0 0] hp nx = some (.i .i64 (d.used : Nat), hp, nx) := by
  intro nx
  obtain ⟨es, hm, hp'⟩ := h.now
  have hh : ∀ e ∈ d.now, d.Has e.2 := fun e he => ⟨_, hI.now, e, he, rfl⟩
  let ln : Nat → Nat := fun x => match (d.now.find? fun e => φ e.2 == x) with
    | some e => (d.file e.2).b.length
    | none => 0
  have hln : ∀ e ∈ d.now, ln (φ e.2) = (d.file e.2).b.length := fun e he => by
    have : ∃ e', (d.now.find? fun e' => φ e'.2 == φ e.2) = some e' := by
      cases hf : d.now.find? fun e' => φ e'.2 == φ e.2 with
      | none =>
        rw [List.find?_eq_none] at hf
        exact absurd (hf e he) (by simp)
      | some e' => exact ⟨e', rfl⟩
    obtain ⟨e', he'⟩ := this
    have h1 := List.mem_of_find?_eq_some he'
    have h2 := List.find?_some he'
    have h3 : e'.2 = e.2 := h.inj _ _ (hh e' h1) (hh e he) (by simpa using h2)
    simp only [ln, he', h3]
  have hsum : (es.map fun e => ln e.2).sum = d.used := by
    have h1 : (es.map fun e => ln e.2).Perm ((d.now.map fun e => (e.1, φ e.2)).map fun e => ln e.2) := hp'.map _
    rw [h1.sum_nat]
    unfold Dk.used
    rw [List.map_map]
    congr 1
    exact List.map_congr_left fun e he => hln e he
  have := h_used (K := K) (n := n) (nx := nx) (ln := ln) hn h.top hm (fun e he => by
    obtain ⟨e0, h1, h2⟩ := List.mem_map.1 (hp'.mem_iff.1 he)
    obtain ⟨f, a1, a2, a3, a4⟩ := h.file _ (hh e0 h1)
    refine ⟨_, _, by rw [← h2]; exact a2, ?_⟩
    rw [← h2, hln e0 h1, file_eq a1]
    rcases a4 with ⟨b1, b2⟩ | ⟨kb, g, b1, b2, b3⟩
    · rw [b2]
      have : f.b = [] := by simpa [byteRows] using b1
      simp [slLen, this]
    · rw [b1]; simp [slLen]) (by rw [hsum]; have := hI.used; omega)
  rw [hsum] at this
  exact this

/-- How it lies behind 'changes'. -/
theorem Only.pdk {hp hp1 : Hp} {k m : Nat} {wv : AV} {ms : List Nat} {φ : Nat → Nat} {bv : Nat → AV} {d : Dk} {S : Nat → Prop} (h : PDk hp k m wv ms φ bv d S)
    (ho : Only k (.cells [.i .i64 (d.quota : Nat), .mp (some m), wv, .i .i64 d.stop1.stopC]) hp hp1) : PDk hp1 k m wv ms φ bv d.stop1 S :=
  h.top' (fun _ h => h) (stop1_ways d) (fun i _ => by rw [stop1_files]) (by rw [ho k, if_pos rfl, stop1_quota]) fun j _ hj => by rw [ho j, if_neg hj]


/-- 'changes', at whatever number. -/
theorem f_changes {K n N0 : Nat} (hn : 1 ≤ n) {d : Dk} {k m : Nat} {wv : AV} {ms : List Nat} {φ : Nat → Nat} {bv : Nat → AV} {hp : Hp} {S : Nat → Prop} (hI : d.Inv N0) (h : PDk hp k m wv ms φ bv d S) :
    ∃ (h1 : Nat → Hp) (n1 : Nat → Nat), ∀ N, callA cfg K n 45 [.ptr k 0 0] hp N = some (.tup [.b (!d.dead && d.left == 1), .b d.stops], h1 N, n1 N) ∧ N ≤ n1 N ∧ Only k (.cells [.i .i64 (d.quota : Nat), .mp (some m), wv, .i .i64 d.stop1.stopC]) hp (h1 N) := by
  obtain ⟨r1, h1, n1, e1⟩ := sk (K := K) (n := n) (g := 45) (args := [.ptr k 0 0]) (P := fun H N => H = hp) (Q := fun H N r hp' nx' => r = .tup [.b (!d.dead && d.left == 1), .b d.stops] ∧ N ≤ nx' ∧ Only k (.cells [.i .i64 (d.quota : Nat), .mp (some m), wv, .i .i64 d.stop1.stopC]) hp hp')
    (fun H N hp => by subst hp; exact c_changes hn d k _ _ _ _ _ hI.left.2 h.top)
  refine ⟨h1 hp, n1 hp, fun N => ?_⟩
  obtain ⟨a, b, c, e⟩ := e1 hp N rfl
  exact ⟨by rw [a, b], c, e⟩

/-- What 'renames' leaves. -/
structure Ren (k m nx m' nx' : Nat) (q st wv wv' : AV) (ms : List Nat) (es : List (AV × AV)) (S : Nat → Prop) (H H' : Hp) : Prop where
  le : nx ≤ nx'
  m1 : nx ≤ m'
  m2 : m' < nx'
  top : lk H' k = some (0, .cells [q, .mp (some m'), wv', st])
  map : lk H' m' = some (0, .mp es)
  was : SX 1 H' (grw S nx nx') wv' (mrows (ms ++ [m]))
  wn : ∀ kw g' n', wv' = .rs kw g' 0 n' 1 → nx ≤ kw ∨ ∃ g n, wv = .rs kw g 0 n 1
  keep : ∀ j, j < nx → j ≠ k → (∀ g n, wv ≠ .rs j g 0 n 1) → lk H' j = lk H j

/-- 'renames', at whatever heap. -/
theorem f_renames {K n : Nat} (hn : 2 ≤ n) (k m : Nat) (q st wv : AV) (ms : List Nat) (es : List (AV × AV)) (S : Nat → Prop) (P : Hp → Nat → Prop) (hms : ms.length ≤ 2 ^ 22)
    (hP : ∀ H N, P H N → (∀ j, S j → j < N) ∧ lk H k = some (0, .cells [q, .mp (some m), wv, st]) ∧ lk H m = some (0, .mp es) ∧ SX 1 H S wv (mrows ms)) (kS : S k) (mS : S m) :
    ∃ (r : Hp → Nat → AV) (h2 : Hp → Nat → Hp) (n2 m2 : Hp → Nat → Nat) (w2 : Hp → Nat → AV), ∀ H N, P H N → callA cfg K n 46 [.ptr k 0 0] H N = some (r H N, h2 H N, n2 H N) ∧ Ren k m N (m2 H N) (n2 H N) q st wv (w2 H N) ms es S H (h2 H N) := by
  obtain ⟨r, h2, n2, x, e⟩ := sk' (K := K) (n := n) (g := 46) (args := [.ptr k 0 0]) (X := Nat × AV) (P := P) (Q := fun H N r h' n' x => Ren k m N x.1 n' q st wv x.2 ms es S H h') (fun H N hp => by
    obtain ⟨a, b, c, e⟩ := hP H N hp
    refine (c_renames hn k m q st wv ms es H N S a b c e kS mS hms).mono fun r h' n' ⟨m', w', p1, p2, p3, p4, p5, p6, p7, p8⟩ => ?_
    exact ⟨(m', w'), p1, p2, p3, p4, p5, p6, p7, p8⟩)
  exact ⟨r, h2, n2, fun H N => (x H N).1, fun H N => (x H N).2, e⟩

theorem Only.lk {k : Nat} {o : AO} {hp hp' : Hp} (h : Only k o hp hp') : lk hp' k = some (0, o) := by rw [h k, if_pos rfl]
theorem Only.ne {k j : Nat} {o : AO} {hp hp' : Hp} (h : Only k o hp hp') (hj : j ≠ k) : Ab.lk hp' j = Ab.lk hp j := by rw [h j, if_neg hj]

/-- Nothing has turned. -/
theorem quiet {d : Dk} {k m : Nat} {wv : AV} {ms : List Nat} {φ : Nat → Nat} {bv : Nat → AV} {hp : Hp} {nx nx' : Nat} {S : Nat → Prop} (hS : ∀ j, S j → j < nx) (h : PDk hp k m wv ms φ bv d S) (hx : nx ≤ nx') : PRep hp nx' k d (grw S nx nx') ∧ Frm S hp nx hp nx' :=
  ⟨⟨fun j hj => hj.elim (fun h => Nat.lt_of_lt_of_le (hS j h) hx) fun h => h.2, m, wv, ms, φ, bv, h.top' (fun _ h => .inl h) rfl (fun _ _ => rfl) h.top fun _ _ _ => rfl⟩, hx, fun _ _ _ => rfl⟩
/-- The count of changes alone has turned. -/
theorem counted {d : Dk} {k m : Nat} {wv : AV} {ms : List Nat} {φ : Nat → Nat} {bv : Nat → AV} {hp hp1 : Hp} {nx nx' : Nat} {S : Nat → Prop} (hS : ∀ j, S j → j < nx) (h : PDk hp k m wv ms φ bv d S) (hx : nx ≤ nx')
    (ho : Only k (.cells [.i .i64 (d.quota : Nat), .mp (some m), wv, .i .i64 d.stop1.stopC]) hp hp1) : PRep hp1 nx' k d.stop1 (grw S nx nx') ∧ Frm S hp nx hp1 nx' :=
  ⟨⟨fun j hj => hj.elim (fun h => Nat.lt_of_lt_of_le (hS j h) hx) fun h => h.2, m, wv, ms, φ, bv, (ho.pdk h).top' (fun _ h => .inl h) rfl (fun _ _ => rfl) (ho.pdk h).top fun _ _ _ => rfl⟩, hx, fun j _ hj => ho.ne fun e => hj (by rw [e]; exact h.topS)⟩

theorem has_with {d : Dk} {w : Way} {i : Nat} (h : (d.with w).Has i) : d.Has i ∨ ∃ e ∈ w, e.2 = i := by
  obtain ⟨w', hw, e, he, hi⟩ := h
  rcases List.mem_append.1 hw with h1 | h1
  · exact .inl ⟨w', h1, e, he, hi⟩
  · simp at h1; subst h1; exact .inr ⟨e, he, hi⟩

/-- Behind Create. -/
theorem create_end {N n1 n2 m m' nf nx nx3 k : Nat} {d : Dk} {wv wv' : AV} {ms : List Nat} {φ : Nat → Nat} {bv : Nat → AV} {hp hp1 hp2 : Hp} {es : List (Bs × Nat)} {S : Nat → Prop} {s : Bs} (hS : ∀ j, S j → j < nx) (hI : d.Inv N) (h : PDk hp k m wv ms φ bv d S)
    (ho : Only k (.cells [.i .i64 (d.quota : Nat), .mp (some m), wv, .i .i64 d.stop1.stopC]) hp hp1) (hr : Ren k m n1 m' n2 (.i .i64 (d.quota : Nat)) (.i .i64 d.stop1.stopC) wv wv' ms (encM es) S hp1 hp2)
    (hes : es.Perm (d.now.map fun e => (e.1, φ e.2))) (hi : fI es s 0 = none) (hnx : nx ≤ n1) (hnf : n2 ≤ nf) (hnx3 : nf < nx3) :
    PRep (up (up hp2 nf (0, .cells [.vs true 0 [], .i .i64 0])) m' (0, .mp (encM es ++ [(.s (ba s), .ptr nf 0 0)]))) nx3 k (Dk.with { d.stop1 with files := d.stop1.files ++ [⟨[], 0⟩] } (insW d.stop1.now s d.stop1.files.length)) (grw S nx nx3) ∧
    Frm S hp nx (up (up hp2 nf (0, .cells [.vs true 0 [], .i .i64 0])) m' (0, .mp (encM es ++ [(.s (ba s), .ptr nf 0 0)]))) nx3 := by
  have hk := hS k h.topS
  have e1 := hr.le; have e2 := hr.m1; have e3 := hr.m2
  have hmn : ¬ m' = nf := by omega
  have hlow : ∀ j, j < nx → j ≠ k → (∀ g n, wv ≠ .rs j g 0 n 1) → lk (up (up hp2 nf (0, .cells [.vs true 0 [], .i .i64 0])) m' (0, .mp (encM es ++ [(.s (ba s), .ptr nf 0 0)]))) j = lk hp j := fun j hj h1 h2 => by
    rw [lk_set, if_neg (by omega), lk_set, if_neg (by omega), hr.keep j (by omega) h1 h2, ho.ne h1]
  have hwS : ∀ j g n, wv = .rs j g 0 n 1 → S j := fun j g n e => by
    rcases h.was with ⟨_, a⟩ | ⟨kw, g', a, _, b⟩
    · rw [a] at e; cases e
    · rw [a] at e; cases e; exact b
  have hnh : ¬ d.Has d.files.length := fun hh => by
    obtain ⟨f, a, _⟩ := h.file _ hh
    have := (List.getElem?_eq_some_iff.1 a).1
    omega
  have hupd : encM es ++ [(.s (ba s), .ptr nf 0 0)] = encM (updM es s nf) := by
    rw [encM_app]
    simp [updM, hi]
  refine ⟨⟨fun j hj => hj.elim (fun h => by have := hS j h; omega) fun h => h.2, m', wv', ms ++ [m], fun i => if i = d.files.length then nf else φ i, fun i => if i = d.files.length then .vs true 0 [] else bv i, ?_⟩, by omega, fun j hj hn => hlow j hj (fun e => hn (by rw [e]; exact h.topS)) fun g n e => hn (hwS j g n e)⟩
  have hw := h
  refine PDk.push (d := d) (S := S) hw hI.ne (by simp [Dk.with]; rfl) (fun _ h => .inl h) ?_ ?_ (.inr ⟨by omega, by omega⟩) ?_ (fun j hj h1 h2 => hlow j (hS j hj) h1 h2) (fun i hi => ?_) (fun i hi hn => ?_) (fun i j hi hn hj hnj => ?_) (fun kw g' n' e => ?_)
  · rw [lk_set, if_neg (by omega), lk_set, if_neg (by omega), hr.top]
    simp [Dk.with, Dk.stopC]
  · refine ⟨updM es s nf, by rw [lk_set, if_pos rfl, hupd], ?_⟩
    have hp2 : es.Perm (d.now.map fun e => (e.1, (fun i => if i = d.files.length then nf else φ i) e.2)) := by
      rw [show (d.now.map fun e => (e.1, (fun i => if i = d.files.length then nf else φ i) e.2)) = d.now.map fun e => (e.1, φ e.2) from List.map_congr_left fun e he => by
        have : e.2 ≠ d.files.length := by
          have := ((hI.way _ hI.now).2.2 e he).1
          omega
        simp [this]]
      exact hes
    have := upd_perm (φ := fun i => if i = d.files.length then nf else φ i) s d.files.length hp2 hI.rising
    simpa using this
  · rcases hr.was with ⟨a, b⟩ | ⟨kw, g, a, b, c⟩
    · exact .inl ⟨a, b⟩
    · refine .inr ⟨kw, g, a, ?_, ?_⟩
      · have h1 : kw ≠ m' := ne_of_lk b hr.map (by simp)
        have h2 : kw < n2 := by
          rcases c with c | c
          · have := hS _ c; omega
          · exact c.2
        rw [lk_set, if_neg h1, lk_set, if_neg (by omega)]
        exact b
      · rcases c with c | c
        · exact .inl c
        · exact .inr ⟨by omega, by omega⟩
  · obtain ⟨f, a, _⟩ := h.file i hi
    have hl := (List.getElem?_eq_some_iff.1 a).1
    have : i ≠ d.files.length := by omega
    refine ⟨by simp [this], by simp [this], ?_⟩
    simp [Dk.with, List.getElem?_append_left hl]
  · have : i = d.files.length := by
      rcases has_with hi with h1 | ⟨e, he, h1⟩
      · have h2 : d.Has i := by
          obtain ⟨w, a, b⟩ := h1
          exact ⟨w, by simpa using a, b⟩
        exact absurd h2 hn
      · simp only [stop1_now, stop1_files] at he
        rcases insW_mem he with h2 | h2
        · rw [← h1, h2]
        · exact absurd ⟨_, hI.now, e, h2, h1⟩ hn
    subst this
    refine ⟨⟨[], 0⟩, by simp [Dk.with], ?_, .inr ⟨by simp; omega, by simp; omega⟩, by simp; intro hh; have := hS _ hh; omega, by simp, rfl⟩
    simp only [if_true]
    rw [lk_set, if_neg (fun e => hmn e.symm), lk_set, if_pos rfl]
    rfl
  · have key : ∀ i, (Dk.with { d.stop1 with files := d.stop1.files ++ [⟨[], 0⟩] } (insW d.stop1.now s d.stop1.files.length)).Has i → ¬ d.Has i → i = d.files.length := fun i hi hn => by
      rcases has_with hi with h1 | ⟨e, he, h1⟩
      · have h2 : d.Has i := by
          obtain ⟨w, a, b⟩ := h1
          exact ⟨w, by simpa using a, b⟩
        exact absurd h2 hn
      · simp only [stop1_now, stop1_files] at he
        rcases insW_mem he with h2 | h2
        · rw [← h1, h2]
        · exact absurd ⟨_, hI.now, e, h2, h1⟩ hn
    rw [key i hi hn, key j hj hnj]
  · rcases hr.wn kw g' n' e with h1 | ⟨g, n, h1⟩
    · exact .inl fun hh => by have := hS _ hh; omega
    · exact .inr ⟨g, n, h1⟩

theorem c_pCreate {K n N : Nat} (hK : big K) (hn : 3 ≤ n) {d : Dk} {k : Nat} {hp : Hp} {nx : Nat} {S : Nat → Prop} (hI : d.Inv N) (hN : N ≤ 2 ^ 21) (h : PRep hp nx k d S) (s : Bs) :
    Sp K n 14 [.ptr k 0 0, .s (ba s)] hp nx fun r hp' nx' => r = .i .i64 (d.create s).1 ∧ PRep hp' nx' k (d.create s).2 (grw S nx nx') ∧ Frm S hp nx hp' nx' := by
  refine sp_cps fun Q hQ => ?_
  obtain ⟨n, rfl⟩ : ∃ m, n = m + 1 := ⟨n - 1, by omega⟩
  obtain ⟨hS, m, wv, ms, φ, bv, h⟩ := h
  obtain ⟨es, hm, hp'⟩ := h.now
  have hf := perm_find s hp' hI.rising
  have hlen : es.length = d.now.length := by have := hp'.length_eq; simpa using this
  have hc := c_can (n := n) hK (by omega) s
  have hg := h.top
  have hmk : m ≠ k := ne_of_lk hm hg (by simp)
  obtain ⟨h1, n1, e1⟩ := f_changes (K := K) (n := n) (by omega) hI h
  have e1' := fun N => (e1 N).1
  obtain ⟨P, hP⟩ : ∃ P : Hp → Nat → Prop, P = fun H N => ∃ N', nx ≤ N' ∧ H = h1 N' ∧ n1 N' ≤ N := ⟨_, rfl⟩
  have hP1 : ∀ N' N, nx ≤ N' → n1 N' ≤ N → P (h1 N') N := fun N' N a b => by rw [hP]; exact ⟨N', a, rfl, b⟩
  obtain ⟨r2, h2, n2, m2, w2, e2⟩ := f_renames (K := K) (n := n) (by omega) k m (.i .i64 (d.quota : Nat)) (.i .i64 d.stop1.stopC) wv ms (encM es) S P (by have := hI.nways; have := h.waslen; omega) (fun H N hx => by
    rw [hP] at hx
    obtain ⟨N', a, rfl, b⟩ := hx
    have ho := (e1 N').2.2
    have hle := (e1 N').2.1
    have hq := ho.pdk h
    refine ⟨fun j hj => by have := hS j hj; omega, ?_, ?_, ?_⟩
    · have := hq.top; simpa using this
    · rw [ho.ne hmk]; exact hm
    · exact hq.was) h.topS h.nowS
  have e2' := fun H N hx => (e2 H N hx).1
  have t2 := fun H N hx => (e2 H N hx).2.top
  have u2 := fun H N hx => (e2 H N hx).2.map
  have v2 : ∀ H N, P H N → ∀ c, ¬ m2 H N = n2 H N + c := fun H N hx c => by have := (e2 H N hx).2.m2; omega
  refine sp_of rfl (run_wp Tryz.func14 rfl (by simp [Tryz.f14]) ?_)
  cases hs : nameOk s with
  | false =>
    simp [hc, hs]
    exact hQ _ _ _ ⟨by simp [Dk.create, hs], by simpa [Dk.create, hs] using quiet hS h (by omega)⟩
  | true =>
    cases hi : fI es s 0 with
    | some x =>
      obtain ⟨i, n0⟩ := x
      have hfw : (findW d.now s).isSome = true := by
        rw [hi] at hf
        cases hw : findW d.now s with
        | none => rw [hw] at hf; cases hf
        | some _ => rfl
      simp [hc, hs, hg, hm, lookup_enc, hi, keyD]
      exact hQ _ _ _ ⟨by simp [Dk.create, hs, hfw], by simpa [Dk.create, hs, hfw] using quiet hS h (by omega)⟩
    | none =>
      have hfw : findW d.now s = none := by
        rw [hi] at hf
        simpa using hf.symm
      by_cases h64 : 64 ≤ d.now.length
      · have c1 : (64 : Int) ≤ es.length := by omega
        simp [hc, hs, hg, hm, lookup_enc, hi, keyD, c1]
        exact hQ _ _ _ ⟨by simp [Dk.create, hs, hfw, h64], by simpa [Dk.create, hs, hfw, h64] using quiet hS h (by omega)⟩
      · have c1 : ¬ (64 : Int) ≤ es.length := by omega
        cases hst : d.stops with
        | true =>
          rw [hst] at e1'
          simp [hc, hs, hg, hm, lookup_enc, hi, keyD, c1, e1', Nat.add_assoc]
          have hcr : d.create s = (44, d.stop1) := by simp [Dk.create, Dk.goes, hs, hfw, h64, hst]
          rw [hcr] at hQ
          exact hQ _ _ _ ⟨rfl, counted hS h (Nat.le_trans (Nat.le_add_right _ _) (Nat.le_trans (e1 _).2.1 (Nat.le_add_right _ _))) (e1 _).2.2⟩
        | false =>
          rw [hst] at e1'
          simp [hc, hs, hg, hm, lookup_enc, hi, keyD, c1, e1', Nat.add_assoc, e2', hP1, t2, u2, v2, lk_set]
          have hcr : d.create s = (0, Dk.with { d.stop1 with files := d.stop1.files ++ [⟨[], 0⟩] } (insW d.stop1.now s d.stop1.files.length)) := by simp [Dk.create, Dk.goes, hs, hfw, h64, hst]
          rw [hcr] at hQ
          exact hQ _ _ _ ⟨rfl, create_end hS hI h (e1 _).2.2 (e2 _ _ (hP1 _ _ (Nat.le_add_right _ _) (Nat.le_add_right _ _))).2 hp' hi (Nat.le_trans (Nat.le_add_right _ _) (Nat.le_trans (e1 _).2.1 (Nat.le_add_right _ _))) (Nat.le_add_right _ _) (by omega)⟩
end Ab
end Go.Proofs.YtmbbnoipoifhhaaGreatDoor
