/-
  DERIVED. Images held against one another; a beginning of bytes.
  Conditions: enough rounds, enough depth.
-/
import Derived.Test.YtecjchghapgdeaaG0
import Derived.Test.YtecjchghapgdeaaD15
set_option linter.all false
set_option maxHeartbeats 4000000
namespace Go.Proofs.Ytecjchghapgdeaa
namespace Ab
set_option maxRecDepth 100000
set_option maxHeartbeats 8000000
set_option linter.all false
attribute [local simp] wp_regW opsW_nil opsW_cons opsK_eq regK_no regK_draw oW_n oW_h oW_r oW_pn convA appendA appRow newsA rowsOf isIntD makeSliceA elemOf rowsBuilt eqA eq1

theorem fz_rows {get : Ref → Option AO} {z : Bool} {sz : Nat} {rows : List (List AV)} (h : Fz z sz rows) : rowsSz get 1 (.vs z sz rows) = some rows := by
  cases z with
  | true => simp [rowsSz, h.nil rfl]
  | false => simp [rowsSz, h.sz rfl]

theorem c_starts {K n : Nat} (hn : 1 ≤ n) {z z' : Bool} {s s' : Nat} {b a : Bs} (hz : Fz z s (byteRows b)) (hz' : Fz z' s' (byteRows a)) (h : ∃ n, a = b.take n) (hb : b.length ≤ 2 ^ 40) :
    pR (callA cfg K n) 21 [.vs z s (byteRows b), .vs z' s' (byteRows a)] = some (.b true) := by
  obtain ⟨n, rfl⟩ : ∃ m, n = m + 1 := ⟨n - 1, by omega⟩
  obtain ⟨c, hc⟩ := h
  have hl : a.length ≤ b.length := by rw [hc]; simp; omega
  have hl' : (a.length : Int) ≤ b.length := by omega
  have ht : (byteRows b).take a.length = byteRows a := by
    rw [← byteRows_take, hc, List.length_take, ← List.take_eq_take_min]
  refine pr_of rfl ?_ rfl
  refine run_wp Try.func21 rfl (by simp [Try.f21]) ?_
  have e2 : ∀ get, rowsSz get 1 (.vs z' s' (byteRows a)) = some (byteRows a) := fun get => fz_rows hz'
  have e3 : bytesOf (byteRows a) = some a := bytesOf_rows a
  have e5 : bytesOf [] = some [] := rfl
  cases z with
  | true =>
    have hb0 : b = [] := by simpa [byteRows] using hz.nil rfl
    subst hb0
    have ha0 : a = [] := by simpa using hc
    subst ha0
    have e0 : byteRows [] = [] := rfl
    rw [e0] at e2
    have e4 : ∀ get, rowsSz get 1 (.vs true s []) = some [] := fun get => rfl
    simp [lenA_sl, e0, e2, e4, e5, ba_list]
    refine ⟨by kernel_rfl, by simp [dynOk, pairsOk, befOf, Region.binds, Eff.apart, Eff.clear, Eff.wkeys, Ref.key, AV.refs0, List.range, List.range.loop]⟩
  | false =>
    have hs := hz.sz rfl
    subst hs
    have e4 : ∀ get, rowsSz get 1 (.vs false 1 (byteRows a)) = some (byteRows a) := fun get => rfl
    simp [lenA_sl, hl, hl', ht, e2, e3, e4, ba_list]
    refine ⟨by kernel_rfl, by simp [dynOk, pairsOk, befOf, Region.binds, Eff.apart, Eff.clear, Eff.wkeys, Ref.key, AV.refs0, List.range, List.range.loop]⟩

/-- A row of an image as it is now. -/
def FzE (row : List AV) (x : Bs × Fl) : Prop := ∃ z s, row = [.s (ba x.1), .vs z s (byteRows x.2.b), .i .i64 (x.2.fast : Nat)] ∧ Fz z s (byteRows x.2.b)

theorem c_Images {K n : Nat} (hK : big K) (hn : 1 ≤ n) {z z' : Bool} {s s' : Nat} {ra rb : List (List AV)} {l : List (Bs × Fl)} (hz : (z = true → ra = []) ∧ (z = false → s = 3)) (hz' : (z' = true → rb = []) ∧ (z' = false → s' = 3)) (ha : Rel2 FzE ra l) (hb : Rel2 FzE rb l) (hl : l.length ≤ 64) :
    pR (callA cfg K n) 22 [.vs z s ra, .vs z' s' rb] = some (.b true) := by
  obtain ⟨n, rfl⟩ : ∃ m, n = m + 1 := ⟨n - 1, by omega⟩
  refine pr_of rfl ?_ rfl
  refine run_wp Try.func22 rfl (by simp [Try.f22]) ?_
  have la := ha.1
  have lb := hb.1
  simp [lenA_sl, la, lb]
  refine loop_wp (ι := Nat × Nat) (fun i => { env := [(0, .vs z s ra), (1, .vs z' s' rb), (5, .i .i64 (i.1 : Nat))], loc := [], hp := [], nx := i.2 }) (fun i => l.length - i.1)
    (fun i => i.1 ≤ l.length) (0, _) rfl (Nat.zero_le _) (by simp; unfold big at hK; omega) ?_
  rintro Next ⟨i, nx⟩ hi hnext
  simp only at hi hnext ⊢
  by_cases hlt : i < l.length
  · have c1 : (i : Int) < l.length := by omega
    have c3 : IntKind.i64.wrap ((i : Int) + 1) = ((i + 1 : Nat) : Int) := by rw [wrap_i64 (by omega) (by omega)]; omega
    obtain ⟨x, hx⟩ : ∃ x, l[i]? = some x := ⟨_, List.getElem?_eq_getElem hlt⟩
    obtain ⟨r1, p1, z1, s1, rfl, f1⟩ := ha.get hx
    obtain ⟨r2, p2, z2, s2, rfl, f2⟩ := hb.get hx
    have zf : z = false := by
      cases z with
      | false => rfl
      | true => have := hz.1 rfl; rw [this] at p1; simp at p1
    have zf' : z' = false := by
      cases z' with
      | false => rfl
      | true => have := hz'.1 rfl; rw [this] at p2; simp at p2
    have hs := hz.2 zf
    have hs' := hz'.2 zf'
    subst zf zf' hs hs'
    have e1 : ∀ get, rowsSz get 1 (.vs z1 s1 (byteRows x.2.b)) = some (byteRows x.2.b) := fun get => fz_rows f1
    have e2 : ∀ get, rowsSz get 1 (.vs z2 s2 (byteRows x.2.b)) = some (byteRows x.2.b) := fun get => fz_rows f2
    have e3 : bytesOf (byteRows x.2.b) = some x.2.b := bytesOf_rows _
    simp [lenA_sl, la, c1, p1, p2, e1, e2, e3, ba_list, c3]
    refine ⟨⟨by kernel_rfl, dyn_quiet (by simp [quietE])⟩, ?_⟩
    exact hnext (i + 1, _) (by simp only; omega) hlt
  · obtain rfl : i = l.length := by omega
    simp [lenA_sl, la]

theorem mapO_all {α β T : Type} {f : T → α → Option β} {P : α → β → Prop} : ∀ (l : List α), (∀ x ∈ l, ∃ y, (∀ t, f t x = some y) ∧ P x y) → ∃ l', (∀ t, mapO (f t) l = some l') ∧ l'.length = l.length ∧ ∀ (i : Nat) x y, l[i]? = some x → l'[i]? = some y → P x y
  | [], _ => ⟨[], fun _ => rfl, rfl, fun i x y h _ => by simp at h⟩
  | x :: l, h => by
    obtain ⟨y, h1, h2⟩ := h x List.mem_cons_self
    obtain ⟨l', h3, h4, h5⟩ := mapO_all l fun x hx => h x (List.mem_cons_of_mem _ hx)
    refine ⟨y :: l', fun t => by simp only [mapO, h1 t, h3 t, Option.map_some], by simp [h4], fun i a b ha hb => ?_⟩
    cases i with
    | zero => cases ha; cases hb; exact h2
    | succ i => exact h5 i a b ha hb

/-- An image on the heap, as it is now. -/
theorem img_frz {hp : Hp} {S : Nat → Prop} {v : AV} {rows : List (List AV)} {l : List (Bs × Fl)} (h : SV 3 hp S v rows) (he : Rel2 (fun r x => ∃ u, r = [.s (ba x.1), u, .i .i64 (x.2.fast : Nat)] ∧ SV 1 hp S u (byteRows x.2.b)) rows l) :
    ∃ z s rows', ((z = true → rows' = []) ∧ (z = false → s = 3)) ∧ Rel2 FzE rows' l ∧ (rf1 v = true → v = .vs z s rows') ∧ ∀ env loc nx m, frz (St.get ⟨env, loc, hp, nx⟩) (m + 4) v = some (.vs z s rows') := by
  have flb : ∀ b : Bs, ∀ r ∈ byteRows b, r.all fl1 = true := fun b r hr => by simp [byteRows] at hr; obtain ⟨_, _, rfl⟩ := hr; rfl
  obtain ⟨rows', h1, h2, h3⟩ := mapO_all (T := List (Nat × AV) × List (Nat × (Nat × AO)) × Nat × Nat) (f := fun t r => mapO (frz (St.get ⟨t.1, t.2.1, hp, t.2.2.1⟩) (t.2.2.2 + 3)) r) (P := fun r r' => ∀ x : Bs × Fl, (∃ u, r = [.s (ba x.1), u, .i .i64 (x.2.fast : Nat)] ∧ SV 1 hp S u (byteRows x.2.b)) → FzE r' x) rows fun r hr => by
    obtain ⟨i, hi⟩ := List.mem_iff_getElem?.1 hr
    have hl : i < l.length := by rw [← he.1]; exact (List.getElem?_eq_some_iff.1 hi).1
    obtain ⟨u, rfl, hu⟩ := he.2 i r _ hi (List.getElem?_eq_getElem hl)
    obtain ⟨z, s, hz, _, hf⟩ := sv_frz hu (flb _)
    refine ⟨[.s (ba l[i].1), .vs z s (byteRows l[i].2.b), .i .i64 (l[i].2.fast : Nat)], fun t => ?_, fun x ⟨u', e1, e2⟩ => ?_⟩
    · simp only [mapO, frz_s, frz_i, hf, Option.map_some]
    · simp only [List.cons.injEq, AV.s.injEq, AV.i.injEq, true_and, and_true] at e1
      obtain ⟨e3, e4, e5⟩ := e1
      subst e4
      have e6 : byteRows x.2.b = byteRows l[i].2.b := by
        rcases hu with ⟨a1, a2, a3⟩ | ⟨k, g, i0, all, a1, a2, a3, a4, a5⟩
        · rcases e2 with ⟨b1, _⟩ | ⟨_, _, _, _, b1, _⟩
          · rw [a1, b1]
          · rw [a3] at b1; cases b1
        · rcases e2 with ⟨_, _, b1⟩ | ⟨k', g', i0', all', b1, b2, b3, b4, b5⟩
          · rw [a1] at b1; cases b1
          · rw [a1] at b1
            simp only [AV.rs.injEq] at b1
            obtain ⟨rfl, rfl, rfl, b6, _⟩ := b1
            rw [a2] at b2
            cases b2
            rw [← a3, ← b3, b6]
      exact ⟨z, s, by rw [e3, e5, ← e6], by rw [e6]; exact hz⟩
  have hA : Rel2 FzE rows' l := ⟨by rw [h2, he.1], fun i r x hr hx => by
    have hl : i < rows.length := by rw [← h2]; exact (List.getElem?_eq_some_iff.1 hr).1
    exact h3 i _ r (List.getElem?_eq_getElem hl) hr x (he.2 i _ x (List.getElem?_eq_getElem hl) hx)⟩
  rcases h with ⟨rfl, z, rfl⟩ | ⟨k, g, i0, all, rfl, a2, a3, a4, _⟩
  · have : rows' = [] := List.length_eq_zero_iff.1 h2
    subst this
    exact ⟨true, z, [], ⟨fun _ => rfl, fun h => by cases h⟩, hA, fun _ => rfl, fun _ _ _ _ => rfl⟩
  · refine ⟨false, 3, rows', ⟨(fun h => by cases h), fun _ => rfl⟩, hA, (fun h => by cases h), fun env loc nx m => ?_⟩
    rw [frz_rs]
    have := h1 (env, loc, nx, m)
    simp only at this
    simp [rowsOf, St.get, a2, a3, a4, this]

end Ab
end Go.Proofs.Ytecjchghapgdeaa

/-
  DERIVED. What a crash leaves, in plain Lean.
  Conditions: none of a program's.
-/
namespace Go.Proofs.Ytecjchghapgdeaa
namespace Ab
set_option linter.all false

/-- Does a file stand fast, all of it? -/
def Fl.all (x : Fl) : Prop := x.fast = x.b.length
theorem Fl.crash_all (x : Fl) (k : Int) : (x.crash k).all := by
  unfold Fl.crash Fl.all
  split <;> rfl
theorem Fl.crash_same {x : Fl} (h : x.all) (k : Int) : x.crash k = x := by
  unfold Fl.all at h
  unfold Fl.crash
  rw [if_neg (by omega)]
  obtain ⟨b, f⟩ := x
  simp only at h
  subst h
  rfl
theorem Fl.crash_pre (x : Fl) (k : Int) : ∃ n, (x.crash k).b = x.b.take n ∧ (x.fast ≤ x.b.length → x.fast ≤ (x.crash k).b.length) := by
  unfold Fl.crash
  split
  · rename_i h
    refine ⟨_, rfl, fun h2 => ?_⟩
    simp only [List.length_take]
    omega
  · exact ⟨x.b.length, by simp, fun h => h⟩

/-- What a crash leaves of each file. -/
theorem crashF_at (keeps : List Int) : ∀ (w : Way) (a : Nat) (fs : List Fl) (i : Nat), (∀ e ∈ w, e.2 < fs.length) →
    ((crashF keeps w a fs)[i]?.getD ⟨[], 0⟩ = fs[i]?.getD ⟨[], 0⟩ ∨ ∃ k, (crashF keeps w a fs)[i]?.getD ⟨[], 0⟩ = (fs[i]?.getD ⟨[], 0⟩).crash k) ∧
    ((∃ e ∈ w, e.2 = i) → ∃ k, (crashF keeps w a fs)[i]?.getD ⟨[], 0⟩ = (fs[i]?.getD ⟨[], 0⟩).crash k)
  | [], a, fs, i, _ => ⟨.inl rfl, fun ⟨e, he, _⟩ => by cases he⟩
  | e :: w, a, fs, i, h => by
    simp only [crashF]
    generalize (if (fs[e.2]?.getD ⟨[], 0⟩).fast < (fs[e.2]?.getD ⟨[], 0⟩).b.length then a + 1 else a) = a'
    generalize (if keeps = [] then (0 : Int) else keeps[a % keeps.length]?.getD 0) = k0
    obtain ⟨i1, i2⟩ := crashF_at keeps w a' (fs.set e.2 ((fs[e.2]?.getD ⟨[], 0⟩).crash k0)) i fun e' he' => by
      rw [List.length_set]; exact h e' (List.mem_cons_of_mem _ he')
    have hel := h e List.mem_cons_self
    by_cases hi : e.2 = i
    · subst hi
      have hx : (fs.set e.2 ((fs[e.2]?.getD ⟨[], 0⟩).crash k0))[e.2]?.getD ⟨[], 0⟩ = (fs[e.2]?.getD ⟨[], 0⟩).crash k0 := by
        rw [List.getElem?_set_self hel]; rfl
      rw [hx] at i1 i2
      have key : ∃ k, (crashF keeps w a' (fs.set e.2 ((fs[e.2]?.getD ⟨[], 0⟩).crash k0)))[e.2]?.getD ⟨[], 0⟩ = (fs[e.2]?.getD ⟨[], 0⟩).crash k := by
        rcases i1 with h1 | ⟨k, h1⟩
        · exact ⟨k0, h1⟩
        · exact ⟨k0, by rw [h1, Fl.crash_same (Fl.crash_all _ _)]⟩
      exact ⟨.inr key, fun _ => key⟩
    · have hx : (fs.set e.2 ((fs[e.2]?.getD ⟨[], 0⟩).crash k0))[i]? = fs[i]? := List.getElem?_set_ne hi
      rw [hx] at i1 i2
      refine ⟨i1, fun ⟨e', he', h2⟩ => ?_⟩
      rcases List.mem_cons.1 he' with rfl | he'
      · exact absurd h2 hi
      · exact i2 ⟨e', he', h2⟩

/-- What a disk shows of its files. -/
def Dk.img (d : Dk) : List (Bs × Fl) := d.now.map fun e => (e.1, d.file e.2)
theorem crash_ways {d : Dk} (keeps : List Int) (names : Int) : (d.crash keeps names).ways = [d.ways[leftN names d.ways.length]?.getD []] := rfl
theorem crash_now {d : Dk} (keeps : List Int) (names : Int) : (d.crash keeps names).now = d.ways[leftN names d.ways.length]?.getD [] := rfl
theorem crash_file {d : Dk} {n : Nat} (h : d.Inv n) (keeps : List Int) (names : Int) {e : Bs × Nat} (he : e ∈ (d.crash keeps names).now) : ∃ k, (d.crash keeps names).file e.2 = (d.file e.2).crash k := by
  rw [crash_now] at he
  have hlt : leftN names d.ways.length < d.ways.length := leftN_lt names (List.length_pos_iff.2 h.ne)
  have hw : d.ways[leftN names d.ways.length]? = some d.ways[leftN names d.ways.length] := List.getElem?_eq_getElem hlt
  have hm : d.ways[leftN names d.ways.length] ∈ d.ways := List.getElem_mem _
  have := (crashF_at keeps (d.ways[leftN names d.ways.length]?.getD []) 0 d.files e.2 fun e' he' => by
    rw [hw] at he'
    exact ((h.way _ hm).2.2 e' he').1).2 ⟨e, he, rfl⟩
  exact this
theorem crash_all {d : Dk} {n : Nat} (h : d.Inv n) (keeps : List Int) (names : Int) : ∀ e ∈ (d.crash keeps names).now, ((d.crash keeps names).file e.2).all := fun e he => by
  obtain ⟨k, hk⟩ := crash_file h keeps names he
  rw [hk]
  exact Fl.crash_all _ _
theorem leftN_one (k : Int) : leftN k 1 = 0 := by simp [leftN, Nat.mod_one]
/-- Where all stands fast a crash changes nothing. -/
theorem crash_img {d : Dk} {n : Nat} {w : Way} (h : d.Inv n) (hw : d.ways = [w]) (ha : ∀ e ∈ d.now, (d.file e.2).all) (keeps : List Int) (names : Int) : (d.crash keeps names).img = d.img := by
  have hn : d.now = w := by simp [Dk.now, hw]
  have hc : (d.crash keeps names).now = w := by rw [crash_now, hw]; simp [leftN_one]
  unfold Dk.img
  rw [hc, hn]
  refine List.map_congr_left fun e he => ?_
  obtain ⟨k, hk⟩ := crash_file h keeps names (e := e) (by rw [hc]; exact he)
  rw [hk, Fl.crash_same (ha e (by rw [hn]; exact he))]

/-- With all names fast a crash leaves each file its name, what stood fast, a beginning of the rest. -/
theorem fast_img {d : Dk} {n : Nat} {w : Way} (h : d.Inv n) (hw : d.ways = [w]) (keeps : List Int) (names : Int) :
    (d.crash keeps names).img.length = d.img.length ∧ ∀ (i : Nat) x y, d.img[i]? = some x → (d.crash keeps names).img[i]? = some y → y.1 = x.1 ∧ (∃ c, y.2.b = x.2.b.take c) ∧ x.2.fast ≤ y.2.b.length ∧ y.2.fast = y.2.b.length := by
  have hn : d.now = w := by simp [Dk.now, hw]
  have hc : (d.crash keeps names).now = w := by rw [crash_now, hw]; simp [leftN_one]
  unfold Dk.img
  rw [hc, hn]
  refine ⟨by simp, fun i x y h1 h2 => ?_⟩
  rw [List.getElem?_map] at h1 h2
  cases hx : w[i]? with
  | none => rw [hx] at h1; cases h1
  | some e =>
    rw [hx] at h1 h2
    cases h1; cases h2
    obtain ⟨k, hk⟩ := crash_file h keeps names (e := e) (by rw [hc]; exact List.mem_of_getElem? hx)
    obtain ⟨c, c1, c2⟩ := Fl.crash_pre (d.file e.2) k
    simp only [hk]
    exact ⟨trivial, ⟨c, c1⟩, c2 h.filelen.2, Fl.crash_all _ _⟩
theorem stop_sync (d : Dk) : (d.stop 0).syncNames = (0, { d with left := 0, dead := false, ways := [d.now] }) := by
  simp [Dk.syncNames, Dk.goes, Dk.stop, Dk.stops, Dk.stop1, Dk.now]

theorem file_setF (d : Dk) (i j : Nat) (x : Fl) : (d.setF i x).file j = if j = i ∧ i < d.files.length then x else d.file j := by
  unfold Dk.file Dk.setF
  by_cases h : i = j
  · subst h
    by_cases hl : i < d.files.length
    · simp [hl]
    · have h1 : d.files[i]? = none := List.getElem?_eq_none (by omega)
      have h2 : (d.files.set i x)[i]? = none := List.getElem?_eq_none (by rw [List.length_set]; omega)
      simp [hl, h1, h2]
  · have h' : ¬ j = i := fun e => h e.symm
    rw [List.getElem?_set_ne h]
    simp [h']

/-- All stands fast, and nothing stops. -/
structure Dk.Calm (d : Dk) (w : Way) : Prop where
  ways : d.ways = [w]
  left : d.left = 0
  dead : d.dead = false
  all : ∀ e ∈ w, (d.file e.2).all
theorem Dk.Calm.now {d : Dk} {w : Way} (h : d.Calm w) : d.now = w := by simp [Dk.now, h.ways]
theorem Dk.Calm.stops {d : Dk} {w : Way} (h : d.Calm w) : d.stops = false := by simp [Dk.stops, h.left, h.dead]
theorem Dk.Calm.stop1 {d : Dk} {w : Way} (h : d.Calm w) : d.stop1 = d := by simp [Dk.stop1, h.left, h.dead]
theorem crash_calm {d : Dk} {n : Nat} (h : d.Inv n) (keeps : List Int) (names : Int) : (d.crash keeps names).Calm (d.crash keeps names).now :=
  ⟨by rw [crash_ways, crash_now], rfl, rfl, crash_all h keeps names⟩
theorem calm_crash {d : Dk} {n : Nat} {w : Way} (h : d.Inv n) (hc : d.Calm w) (keeps : List Int) (names : Int) : (d.crash keeps names).Calm w ∧ (d.crash keeps names).img = d.img := by
  have h1 := crash_calm h keeps names
  have h2 : (d.crash keeps names).now = w := by rw [crash_now, hc.ways]; simp [leftN_one]
  rw [h2] at h1
  exact ⟨h1, crash_img h hc.ways (by rw [hc.now]; exact hc.all) keeps names⟩
theorem calm_find {d : Dk} {n : Nat} {w : Way} {e : Bs × Nat} (h : d.Inv n) (hc : d.Calm w) (he : e ∈ w) : nameOk e.1 = true ∧ ∃ i, findW d.now e.1 = some i := by
  have hw : w ∈ d.ways := by rw [hc.ways]; exact List.mem_singleton.2 rfl
  refine ⟨((h.way w hw).2.2 e he).2, ?_⟩
  rw [hc.now]
  cases hf : w.find? fun x => x.1 == e.1 with
  | none =>
    have := List.find?_eq_none.1 hf e he
    simp at this
  | some x => exact ⟨x.2, by simp [findW, hf]⟩
/-- Bytes put behind a file, and synced. -/
theorem once_step {d : Dk} {n : Nat} {w : Way} {e : Bs × Nat} (h : d.Inv n) (hc : d.Calm w) (he : e ∈ w) (b : Bs) : ((d.append e.1 b).2.sync e.1).1 = 0 ∧ ((d.append e.1 b).2.sync e.1).2.Calm w := by
  obtain ⟨hn, i, hi⟩ := calm_find h hc he
  have key : ∃ d1 : Dk, (d.append e.1 b).2 = d1 ∧ d1.ways = [w] ∧ d1.left = 0 ∧ d1.dead = false ∧ ∀ j, j ≠ i → d1.file j = d.file j := by
    by_cases hq : d.quota < d.used + b.length
    · exact ⟨d, by simp [Dk.append, Dk.at, hn, hi, hq], hc.ways, hc.left, hc.dead, fun _ _ => rfl⟩
    · refine ⟨d.put i b, by simp [Dk.append, Dk.at, hn, hi, hq, hc.left, hc.dead, hc.stop1], hc.ways, hc.left, hc.dead, fun j hj => ?_⟩
      unfold Dk.put
      rw [file_setF, if_neg fun h => hj h.1]
  obtain ⟨d1, e1, k1, k2, k3, k4⟩ := key
  rw [e1]
  have n1 : d1.now = d.now := by rw [hc.now]; simp [Dk.now, k1]
  have s1 : d1.stops = false := by simp [Dk.stops, k2, k3]
  have s2 : d1.stop1 = d1 := by simp [Dk.stop1, k2, k3]
  have hs : d1.sync e.1 = (0, d1.setF i ⟨(d1.file i).b, (d1.file i).b.length⟩) := by simp [Dk.sync, Dk.at, hn, n1, hi, Dk.goes, s1, s2]
  rw [hs]
  refine ⟨rfl, k1, k2, k3, fun x hx => ?_⟩
  simp only
  rw [file_setF]
  split
  · rfl
  · rename_i hne
    by_cases hxi : x.2 = i
    · have hl : ¬ i < d1.files.length := fun hl => hne ⟨hxi, hl⟩
      have : d1.file x.2 = ⟨[], 0⟩ := by unfold Dk.file; rw [hxi, List.getElem?_eq_none (by omega)]; rfl
      rw [this]
      rfl
    · rw [k4 _ hxi]
      exact hc.all x hx
theorem calm_sync {d : Dk} {w : Way} (hc : d.Calm w) : d.syncNames.2.Calm w := by
  have : d.syncNames.2 = { d with ways := [w] } := by simp [Dk.syncNames, Dk.goes, hc.stops, hc.stop1, hc.now]
  rw [this]
  exact ⟨rfl, hc.left, hc.dead, hc.all⟩

end Ab
end Go.Proofs.Ytecjchghapgdeaa
