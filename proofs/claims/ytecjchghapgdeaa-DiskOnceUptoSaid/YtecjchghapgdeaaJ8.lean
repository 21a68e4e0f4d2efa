/-
  DERIVED. DiskFast: the law's function answers true.
  Conditions: enough rounds, enough depth; bounded lengths.
-/
import Derived.Test.YtecjchghapgdeaaJ7
import Derived.Test.YtecjchghapgdeaaJ4
import Derived.Test.YtecjchghapgdeaaE1
set_option linter.all false
set_option maxHeartbeats 4000000
namespace Go.Proofs.Ytecjchghapgdeaa
namespace Ab
set_option maxRecDepth 100000
set_option maxHeartbeats 8000000
set_option linter.all false
attribute [local simp] wp_regW opsW_nil opsW_cons opsK_eq regK_no regK_draw oW_n oW_h oW_r oW_pn convA appendA appRow newsA rowsSz rowsOf isIntD makeSliceA elemOf rowsBuilt eqA eq1

/-- An image on the heap. -/
def ImgRow (hp : Hp) (S : Nat → Prop) (r : List AV) (x : Bs × Fl) : Prop := ∃ u, r = [.s (ba x.1), u, .i .i64 (x.2.fast : Nat)] ∧ SV 1 hp S u (byteRows x.2.b)
def Img (hp : Hp) (S : Nat → Prop) (v : AV) (l : List (Bs × Fl)) : Prop := ∃ rows, SV 3 hp S v rows ∧ Rel2 (ImgRow hp S) rows l
theorem Img.mono {hp hp' : Hp} {S S' : Nat → Prop} {v : AV} {l : List (Bs × Fl)} (h : Img hp S v l) (hf : ∀ j, S j → lk hp' j = lk hp j) (hS : ∀ j, S j → S' j) : Img hp' S' v l := by
  obtain ⟨rows, h1, h2⟩ := h
  exact ⟨rows, h1.mono hf hS, h2.imp fun r x ⟨u, e1, e2⟩ => ⟨u, e1, e2.mono hf hS⟩⟩
theorem Img.of {hp : Hp} {S : Nat → Prop} {v : AV} {d : Dk} {rows : List (List AV)} (h1 : SX 3 hp S v rows) (h2 : EntR3 hp S d rows d.now) : Img hp S v d.img := by
  refine ⟨rows, h1.sv, by simpa [Dk.img] using h2.1, fun i r x hr hx => ?_⟩
  unfold Dk.img at hx
  rw [List.getElem?_map] at hx
  cases he : d.now[i]? with
  | none => rw [he] at hx; cases hx
  | some e =>
    rw [he] at hx
    cases hx
    obtain ⟨u, e1, e2⟩ := h2.2 i r e hr he
    exact ⟨u, e1, e2.sv⟩
theorem Img.len {hp : Hp} {S : Nat → Prop} {v : AV} {l : List (Bs × Fl)} (h : Img hp S v l) : slLen v = some l.length := by
  obtain ⟨rows, h1, h2⟩ := h
  rw [h1.len', h2.1]
theorem Img.okc {hp : Hp} {S : Nat → Prop} {v : AV} {l : List (Bs × Fl)} (h : Img hp S v l) : v.okc = true := by
  obtain ⟨rows, h1, h2⟩ := h
  exact h1.okc
theorem Img.at {hp : Hp} {S : Nat → Prop} {v : AV} {l : List (Bs × Fl)} (h : Img hp S v l) {i : Nat} {x : Bs × Fl} (hx : l[i]? = some x) :
    ∃ k g i0 all u, v = .rs k g i0 l.length 3 ∧ lk hp k = some (g, .arr 3 all) ∧ all[i0 + i]? = some [.s (ba x.1), u, .i .i64 (x.2.fast : Nat)] ∧ SV 1 hp S u (byteRows x.2.b) ∧ i0 + l.length ≤ all.length := by
  obtain ⟨rows, h1, h2⟩ := h
  obtain ⟨r, hr, u, rfl, hu⟩ := h2.get hx
  obtain ⟨a, g, i0, all, e1, e2, e3, _, e5, _⟩ := h1.at hr
  exact ⟨a, g, i0, all, u, by rw [e1, h2.1], e2, e3, hu, by rw [← h2.1]; exact e5⟩
/-- The program's image of a disk. -/
theorem c_img {K n N : Nat} (hK : big K) (hn : 2 ≤ n) {d : Dk} {p : Nat} {hp : Hp} {nx : Nat} {S : Nat → Prop} (hI : d.Inv N) (h : PRep hp nx p d S) : Sp K n 19 [.ptr p 0 0] hp nx fun r hp' nx' => nx ≤ nx' ∧ (∀ j, j < nx → lk hp' j = lk hp j) ∧ Img hp' (fun j => nx ≤ j ∧ j < nx') r d.img := by
  obtain ⟨hS, m, wv, ms, φ, bv, hP⟩ := h
  exact (c_pImage hK hn hI hP hS).mono fun r h' n' ⟨a, b, rows, c, e⟩ => ⟨a, b, Img.of c e⟩
theorem flb (b : Bs) : ∀ r ∈ byteRows b, r.all fl1 = true := fun r hr => by simp [byteRows] at hr; obtain ⟨_, _, rfl⟩ := hr; rfl

theorem fast_round {K n N i len ka ga ja kb gb jb : Nat} {hp : Hp} {alla allb : List (List AV)} {x y : Bs × Fl} {ua ub : AV} {S1 S2 : Nat → Prop} {Next : St → Prop} {Q : Ex × St → Prop} (hK : big K) (hn : 1 ≤ n) (hlt : i < len) (hle : len ≤ 64)
    (a1 : lk hp ka = some (ga, .arr 3 alla)) (a2 : alla[ja + i]? = some [.s (ba x.1), ua, .i .i64 (x.2.fast : Nat)]) (b1 : lk hp kb = some (gb, .arr 3 allb)) (b2 : allb[jb + i]? = some [.s (ba y.1), ub, .i .i64 (y.2.fast : Nat)])
    (p1 : y.1 = x.1) (p4 : y.2.fast = y.2.b.length) (p2 : ∃ c, y.2.b = x.2.b.take c) (p3 : x.2.fast ≤ y.2.b.length) (a3 : SV 1 hp S1 ua (byteRows x.2.b)) (b3 : SV 1 hp S2 ub (byteRows y.2.b)) (hxl : x.2.b.length ≤ 2 ^ 24)
    (hnext : ∀ N', Next { env := [(11, .rs ka ga ja len 3), (12, .rs kb gb jb len 3), (13, .i .i64 ((i + 1 : Nat) : Int))], loc := [], hp := hp, nx := N' }) :
    wp (codeA cfg (callA cfg K n) K 4 (loopOf Try.f4 0) { env := [(11, .rs ka ga ja len 3), (12, .rs kb gb jb len 3), (13, .i .i64 (i : Nat))], loc := [], hp := hp, nx := N }) (loopQ Next Q) := by
  have c1 : (i : Int) < len := by omega
  have c3 : IntKind.i64.wrap ((i : Int) + 1) = ((i + 1 : Nat) : Int) := by rw [wrap_i64 (by omega) (by omega)]; omega
  obtain ⟨s1, z1, hz1, r1, f1⟩ := sv_frz a3 (flb _)
  obtain ⟨s2, z2, hz2, r2, f2⟩ := sv_frz b3 (flb _)
  have hst := c_starts (K := K) (n := n) (by omega) hz1 hz2 p2 (by omega)
  have q1 : ¬ (y.2.b.length : Int) < x.2.fast := by omega
  have q1' : ¬ y.2.b.length < x.2.fast := by omega
  have lb := b3.len'
  simp [loopOf, loopsIn, Try.f4, lenA_sl, c1, a1, a2, b1, b2, p1, ba_list, a3.okc, b3.okc, a3.mv, b3.mv]
  refine pn_use (by simp [f1, f2]) hst rfl fun rd => ?_
  simp [lenA_sl, c1, a1, a2, b1, b2, p1, p4, ba_list, a3.okc, b3.okc, a3.mv, b3.mv, q1, q1', lb, c3]
  refine ⟨⟨stat_fast (by kernel_rfl), dyn_quiet (by simp [quietE])⟩, ?_⟩
  exact hnext _

theorem c_Fast {K n nx : Nat} {hp : Hp} (hK : big K) (hn : 7 ≤ n) (q : Int) (za zk : Bool) (rows : List (List AV)) (l : List ActD) (keeps : List Int) (names : Int) (hza : za = true → rows = []) (hzk : zk = true → keeps = []) (hr : ActRows rows l) (hl : l.length ≤ 2 ^ 19) (hok : ∀ a ∈ l, a.ok ∧ a.b.length ≤ 2 ^ 25) (hkl : keeps.length ≤ 2 ^ 30) :
    Sp K n 4 [.i .i64 q, .vs za 6 rows, .vs zk 1 (intRows keeps), .i .i64 names] hp nx fun r _ _ => r = .b true := by
  refine sp_cps fun Q hQ => ?_
  obtain ⟨n, rfl⟩ : ∃ m, n = m + 1 := ⟨n - 1, by omega⟩
  have eL := p_lives (K := K) (n := n) hK (by omega)
  refine sp_of rfl (run_wp Try.func4 rfl (by simp [Try.f4]) ?_)
  simp
  refine pn_use (args' := []) rfl eL rfl fun rd => ?_
  simp
  by_cases hq : q < 0 ∨ 16777216 < q
  · refine (c_played0 (by omega : 3 ≤ n) rfl q hq).cW ?_
    rintro _ hp1 n1 rfl
    simp
    exact hQ _ _ _ rfl
  obtain ⟨q, rfl⟩ : ∃ c : Nat, q = c := ⟨q.toNat, by omega⟩
  refine (c_played1 hK (by omega : 6 ≤ n) q (by omega) za rows l hza hr hl hok).cW ?_
  rintro _ hp1 n1 ⟨p, S, rfl, hP, g1⟩
  have hI : (playD (newDk q) l).Inv (0 + l.length) := playD_inv (newDk_inv q (by omega)) fun a ha => (hok a ha).1
  rw [Nat.zero_add] at hI
  generalize playD (newDk q) l = d at hP hI
  simp
  refine (c_pStop (by omega : 1 ≤ n) hI (hP.frame (fun _ _ => rfl) (by omega)) 0).cW ?_
  rintro _ hp2 n2 ⟨hP2, f2⟩
  have hI2 : (d.stop 0).Inv (l.length + 1) := hI.stop 0 (by omega)
  simp
  refine (c_pSyncNames (by omega : 2 ≤ n) hI2 (hP2.frame (fun _ _ => rfl) (by omega))).cW ?_
  rintro _ hp3 n3 ⟨rfl, hP3, f3⟩
  have hI3 := hI2.syncNames
  rw [stop_sync] at hP3 hI3
  simp only at hP3 hI3
  simp [stop_sync]
  generalize hd3 : ({ d with left := 0, dead := false, ways := [d.now] } : Dk) = d3 at hP3 hI3
  have hw3 : d3.ways = [d.now] := by subst hd3; rfl
  have hm : l.length + 1 + 1 ≤ 2 ^ 20 := by omega
  refine (c_img hK (by omega : 2 ≤ n) hI3 (hP3.frame (fun _ _ => rfl) (by omega))).cW ?_
  rintro v1 hp4 n4 ⟨g4, l4, i4⟩
  have hP4 := hP3.frame (hp' := hp4) (nx' := n4) (fun j hj => l4 j (by have := hP3.lt j hj; omega)) (by omega)
  simp [okc_mv i4.okc]
  refine (c_pCrash hK (by omega : 2 ≤ n) hI3 (by omega) (hP4.frame (fun _ _ => rfl) (by omega)) _ keeps (.inl ⟨zk, rfl, hzk⟩) hkl names).cW ?_
  rintro _ hp5 n5 ⟨hP5, f5⟩
  have hI5 := hI3.crash keeps names
  have g5 := f5.le
  have i5 := i4.mono (hp' := hp5) (S' := fun j => j < n4) (fun j hj => f5.out j (by omega) fun e => by rcases e with e | e; (have := hP3.lt j (.inl e); omega); (have := hP3.lt j (.inr e); omega)) fun j hj => hj.2
  simp
  refine (c_img hK (by omega : 2 ≤ n) hI5 (hP5.frame (fun _ _ => rfl) (by omega))).cW ?_
  rintro v2 hp6 n6 ⟨g6, l6, i6⟩
  have i5' := i5.mono (hp' := hp6) (S' := fun j => j < n4) (fun j hj => l6 j (by omega)) fun _ h => h
  obtain ⟨hlen, hpt⟩ := fast_img hI3 hw3 keeps names
  have e1 := i5'.len
  have e2 := i6.len
  rw [hlen] at e2
  have hP6 := hP5.frame (hp' := hp6) (nx' := n6) (fun j hj => l6 j (by have := hP5.lt j hj; omega)) (by omega)
  simp [okc_mv i4.okc, okc_mv i6.okc, lenA_sl, e1, e2]
  obtain ⟨_, mm, wv, ms, φ, bv, hPD⟩ := hP6
  refine (c_pOpen (N := 0) (by omega : 1 ≤ n) hPD).cW ?_
  rintro _ hp7 n7 ⟨rfl, hE, g7⟩
  subst hE
  have hw5 : (d3.crash keeps names).ways.length - 1 = 0 := rfl
  simp [okc_mv i4.okc, okc_mv i6.okc, hw5]
  generalize hl1 : d3.img = l1 at *
  generalize hl2 : (d3.crash keeps names).img = l2 at *
  have hl64 : l1.length ≤ 64 := by rw [← hl1]; simpa [Dk.img] using hI3.nowlen
  refine loop_wp (ι := Nat × Nat) (fun i => { env := [(11, v1), (12, v2), (13, .i .i64 (i.1 : Nat))], loc := [], hp := hp7, nx := i.2 }) (fun i => l1.length - i.1)
    (fun i => i.1 ≤ l1.length) (0, _) rfl (Nat.zero_le _) (by simp; unfold big at hK; omega) ?_
  rintro Next ⟨i, N⟩ hi hnext
  simp only at hi hnext ⊢
  by_cases hlt : i < l1.length
  · have c1 : (i : Int) < l1.length := by omega
    have c2 : (i : Int) < l2.length := by omega
    have c3 : IntKind.i64.wrap ((i : Int) + 1) = ((i + 1 : Nat) : Int) := by rw [wrap_i64 (by omega) (by omega)]; omega
    obtain ⟨x, hx⟩ : ∃ x, l1[i]? = some x := ⟨_, List.getElem?_eq_getElem hlt⟩
    obtain ⟨y, hy⟩ : ∃ y, l2[i]? = some y := ⟨_, List.getElem?_eq_getElem (by omega)⟩
    obtain ⟨ka, ga, ja, alla, ua, rfl, a1, a2, a3, a4⟩ := i5'.at hx
    obtain ⟨kb, gb, jb, allb, ub, hv2, b1, b2, b3, b4⟩ := i6.at hy
    rw [hlen] at hv2
    subst hv2
    obtain ⟨p1, p2, p3, p4⟩ := hpt i x y hx hy
    have hxl : x.2.b.length ≤ 2 ^ 24 := by
      have hm := List.mem_of_getElem? hx
      rw [← hl1] at hm
      obtain ⟨e, _, rfl⟩ := List.mem_map.1 hm
      exact hI3.filelen.1
    exact fast_round hK (by omega) hlt hl64 a1 a2 b1 b2 p1 p4 p2 p3 a3 b3 hxl fun N' => hnext (i + 1, N') (by simp only; omega) hlt
  · obtain rfl : i = l1.length := by omega
    simp [lenA_sl, e1, okc_mv i4.okc]
    exact hQ _ _ _ rfl

end Ab
end Go.Proofs.Ytecjchghapgdeaa
