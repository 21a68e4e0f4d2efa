/-
  DERIVED. DiskOnce: the law's function answers true.
  Conditions: enough rounds, enough depth; bounded lengths.
-/
import Derived.Test.YtecjchghapgdeaaJ8
set_option linter.all false
set_option maxHeartbeats 4000000
namespace Go.Proofs.Ytecjchghapgdeaa
namespace Ab
set_option maxRecDepth 100000
set_option maxHeartbeats 8000000
set_option linter.all false
attribute [local simp] wp_regW opsW_nil opsW_cons opsK_eq regK_no regK_draw oW_n oW_h oW_r oW_pn convA appendA appRow newsA rowsSz rowsOf isIntD makeSliceA elemOf rowsBuilt eqA eq1

/-- What lies beside a disk stays where the disk alone turns. -/
theorem Frm.keep {S : Nat → Prop} {hp hp' : Hp} {nx nx' a b : Nat} (f : Frm S hp nx hp' nx') (hS : ∀ j, S j → j < a) (hb : b ≤ nx) : ∀ j, (a ≤ j ∧ j < b) → lk hp' j = lk hp j := fun j hj => f.out j (by omega) fun e => by have := hS j e; omega

theorem Img.keep {S : Nat → Prop} {hp hp' : Hp} {nx nx' a b : Nat} {v : AV} {l : List (Bs × Fl)} (h : Img hp (fun j => a ≤ j ∧ j < b) v l) (f : Frm S hp nx hp' nx') (hS : ∀ j, S j → j < a) (hb : b ≤ nx) : Img hp' (fun j => a ≤ j ∧ j < b) v l := h.mono (f.keep hS hb) fun _ h => h
theorem Img.low {hp hp' : Hp} {nx a b : Nat} {v : AV} {l : List (Bs × Fl)} (h : Img hp (fun j => a ≤ j ∧ j < b) v l) (f : ∀ j, j < nx → lk hp' j = lk hp j) (hb : b ≤ nx) : Img hp' (fun j => a ≤ j ∧ j < b) v l := h.mono (fun j hj => f j (by omega)) fun _ h => h

theorem p_Images {K n : Nat} (hK : big K) (hn : 1 ≤ n) {hp : Hp} {S1 S2 : Nat → Prop} {v1 v2 : AV} {l : List (Bs × Fl)} (h1 : Img hp S1 v1 l) (h2 : Img hp S2 v2 l) (hl : l.length ≤ 64) :
    ∃ a1 a2, pR (callA cfg K n) 22 [a1, a2] = some (.b true) ∧ ∀ env loc nx, mapO (frz (St.get ⟨env, loc, hp, nx⟩) frzDepth) [v1, v2] = some [a1, a2] := by
  obtain ⟨r1, e1, e2⟩ := h1
  obtain ⟨r2, e3, e4⟩ := h2
  obtain ⟨z, s, ra, q1, q2, _, q4⟩ := img_frz e1 e2
  obtain ⟨z', s', rb, q5, q6, _, q8⟩ := img_frz e3 e4
  refine ⟨_, _, c_Images hK hn q1 q5 q2 q6 hl, fun env loc nx => ?_⟩
  have x1 := q4 env loc nx 8
  have x2 := q8 env loc nx 8
  simp only [frzDepth, mapO]
  rw [x1, x2]
  rfl

theorem c_Once {K n nx : Nat} {hp : Hp} (hK : big K) (hn : 7 ≤ n) (q : Int) (za zk zg : Bool) (rows : List (List AV)) (l : List ActD) (keeps again : List Int) (names more : Int) (hza : za = true → rows = []) (hzk : zk = true → keeps = []) (hzg : zg = true → again = []) (hr : ActRows rows l) (hl : l.length ≤ 2 ^ 19) (hok : ∀ a ∈ l, a.ok ∧ a.b.length ≤ 2 ^ 25)
    (hkl : keeps.length ≤ 2 ^ 30) (hgl : again.length ≤ 2 ^ 30) :
    Sp K n 5 [.i .i64 q, .vs za 6 rows, .vs zk 1 (intRows keeps), .vs zg 1 (intRows again), .i .i64 names, .i .i64 more] hp nx fun r _ _ => r = .b true := by
  refine sp_cps fun Q hQ => ?_
  obtain ⟨n, rfl⟩ : ∃ m, n = m + 1 := ⟨n - 1, by omega⟩
  have eL := p_lives (K := K) (n := n) hK (by omega)
  have hn2 : 2 ≤ n := by omega
  refine sp_of rfl (run_wp Try.func5 rfl (by simp [Try.f5]) ?_)
  simp
  refine pn_use (args' := []) rfl eL rfl fun rd => ?_
  simp
  by_cases hq : q < 0 ∨ 16777216 < q
  · refine (c_played0 (by omega : 3 ≤ n) rfl q hq).cW ?_
    rintro _ hp1 n1 rfl
    simp
    exact hQ _ _ _ rfl
  obtain ⟨q, rfl⟩ : ∃ c : Nat, q = c := ⟨q.toNat, by omega⟩
  refine (c_played1 hK (by omega : 6 ≤ n) q (by omega) za rows l hza hr hl hok).cW ?_
  rintro _ hp1 n1 ⟨p, S, rfl, hP, g1⟩
  have hI : (playD (newDk q) l).Inv (0 + l.length) := playD_inv (newDk_inv q (by omega)) fun a ha => (hok a ha).1
  rw [Nat.zero_add] at hI
  generalize playD (newDk q) l = d at hP hI
  simp
  refine (c_pCrash hK hn2 hI (by omega) (hP.frame (fun _ _ => rfl) (by omega)) _ keeps (.inl ⟨zk, rfl, hzk⟩) hkl names).cW ?_
  rintro _ hp2 n2 ⟨hP2, f2⟩
  have hI2 := hI.crash keeps names
  have hC2 := crash_calm hI keeps names
  generalize d.crash keeps names = d2 at hP2 hI2 hC2
  have hw64 := hI2.nowlen
  generalize hw : d2.now = w at hC2 hw64
  have g2 := f2.le
  simp
  refine (c_img hK hn2 hI2 (hP2.frame (fun _ _ => rfl) (by omega))).cW ?_
  rintro v1 hp3 n3 ⟨g3, l3, i3⟩
  have hP3 := hP2.frame (hp' := hp3) (nx' := n3) (fun j hj => l3 j (by have := hP2.lt j hj; omega)) (by omega)
  simp [okc_mv i3.okc]
  refine (c_pCrash hK hn2 hI2 (by omega) (hP3.frame (fun _ _ => rfl) (by omega)) _ again (.inl ⟨zg, rfl, hzg⟩) hgl more).cW ?_
  rintro _ hp4 n4 ⟨hP4, f4⟩
  have hI4 := hI2.crash again more
  obtain ⟨hC4, him⟩ := calm_crash hI2 hC2 again more
  generalize d2.crash again more = d4 at hP4 hI4 hC4 him
  have g4 := f4.le
  have i4 := i3.keep f4 (fun j hj => by have := hP2.lt j hj; omega) (by omega)
  simp [okc_mv i3.okc]
  refine (c_img hK hn2 hI4 (hP4.frame (fun _ _ => rfl) (by omega))).cW ?_
  rintro v2 hp5 n5 ⟨g5, l5, i5⟩
  have i4' := i4.low l5 (by omega)
  have hP5 := hP4.frame (hp' := hp5) (nx' := n5) (fun j hj => l5 j (by have := hP4.lt j hj; omega)) (by omega)
  rw [him] at i5
  obtain ⟨a1, a2, r1, r2⟩ := p_Images (K := K) (n := n) hK (by omega) i4' i5 (by simpa [Dk.img, hw] using hw64)
  simp [okc_mv i3.okc, okc_mv i5.okc]
  refine pn_use (r2 _ _ _) r1 rfl fun rd2 => ?_
  simp
  have hPc := hP5
  obtain ⟨_, mm, wv, ms, φ, bv, hPD⟩ := hPc
  refine (c_pOpen (N := 0) (by omega : 1 ≤ n) hPD).cW ?_
  rintro _ hp7 n7 ⟨rfl, hE, g7⟩
  subst hE
  have hw5 : d4.ways.length - 1 = 0 := by rw [hC4.ways]; rfl
  simp [hw5]
  refine (c_pList (nx := n7 + 3) hn2 hI4 hPD).cW ?_
  rintro v3 hp8 n8 ⟨g8, l8, s8⟩
  have hP8 := hP5.frame (hp' := hp8) (nx' := n8) (fun j hj => l8 j (by have := hP5.lt j hj; omega)) (by omega)
  obtain ⟨S8, hS8⟩ : ∃ S8, S8 = grw (grw S (n1 + 2 + 4) n2) (n3 + 4) n4 := ⟨_, rfl⟩
  rw [← hS8] at hP8 hP5
  have hb8 := hP5.lt
  clear hS8
  rw [hC4.now] at s8
  simp [s8.sv.mv]
  refine loop_wp (ι := Nat × Dk × (Nat → Prop) × Hp × Nat) (fun i => { env := [(3, .vs zg 1 (intRows again)), (5, .i .i64 more), (13, .ptr p 0 0), (16, v3), (17, .i .i64 (i.1 : Nat))], loc := [], hp := i.2.2.2.1, nx := i.2.2.2.2 }) (fun i => w.length - i.1)
    (fun i => i.1 ≤ w.length ∧ i.2.1.Calm w ∧ i.2.1.Inv (l.length + 2 + 2 * i.1) ∧ PRep i.2.2.2.1 i.2.2.2.2 p i.2.1 i.2.2.1 ∧ (∀ j, (n7 + 3 ≤ j ∧ j < n8) → ¬ i.2.2.1 j ∧ lk i.2.2.2.1 j = lk hp8 j) ∧ n8 ≤ i.2.2.2.2) (0, d4, S8, hp8, _) rfl
    ⟨Nat.zero_le _, hC4, hI4, hP8.frame (fun _ _ => rfl) (by simp only; omega), fun j hj => ⟨fun e => by have := hb8 j e; omega, rfl⟩, by simp only; omega⟩ (by simp; unfold big at hK; omega) ?_
  rintro Next ⟨i, d, S, H, N⟩ ⟨hi, hC, hI, hP, hout, hN⟩ hnext
  simp only at hi hC hI hP hout hN hnext ⊢
  by_cases hlt : i < w.length
  · have c1 : (i : Int) < w.length := by omega
    have c3 : IntKind.i64.wrap ((i : Int) + 1) = ((i + 1 : Nat) : Int) := by rw [wrap_i64 (by omega) (by omega)]; omega
    obtain ⟨e, hx⟩ : ∃ e, w[i]? = some e := ⟨_, List.getElem?_eq_getElem hlt⟩
    rcases s8 with ⟨e0, _⟩ | ⟨kv, gv, rfl, w1, w2⟩
    · have : w = [] := by simpa [nameRows] using e0
      rw [this] at hlt
      simp at hlt
    simp only [nameRows_len] at hnext ⊢
    have w3 : lk H kv = some (gv, .arr 1 (nameRows w)) := (hout kv w2).2.trans w1
    have w4 : (nameRows w)[i]? = some [.s (ba e.1)] := by simp [nameRows, hx]
    have fv : ∀ c, ¬ kv = N + c := fun c => by omega
    have fv' : ∀ c, ¬ N + c = kv := fun c => by omega
    obtain ⟨st1, st2⟩ := once_step hI hC (List.mem_of_getElem? hx) [120]
    simp [lenA_sl, c1, w3, w4, lk_set, fv, fv', Nat.add_assoc, up_up]
    have hSl := hP.lt
    have hnS : ¬ S (N + 9) := fun e => by have := hSl _ e; omega
    have hPa : PRep (up H (N + 9) (0, .arr 1 [[.i .u8 120]])) (N + 12) p d S := hP.frame (fun j hj => by have := hSl j hj; rw [lk_set, if_neg (by omega)]) (by omega)
    refine (c_pAppend hK (by omega : 4 ≤ n) hI hPa e.1 [120] _ (.inr ⟨N + 9, 0, rfl, by simp [lk_set, byteRows], hnS, by omega⟩) (by simp)).cW ?_
    rintro _ hpA nA ⟨rfl, hPA, fA⟩
    have hIA := hI.append e.1 [120]
    have gA := fA.le
    have wA : lk hpA kv = some (gv, .arr 1 (nameRows w)) := by rw [fA.out kv (by omega) (hout kv w2).1, lk_set, if_neg (by omega), w3]
    simp [lenA_sl, c1, wA, w4, Nat.add_assoc]
    refine (c_pSync hK (by omega : 4 ≤ n) hIA (hPA.frame (fun _ _ => rfl) (by omega)) e.1).cW ?_
    rintro _ hpB nB ⟨rfl, hPB, fB⟩
    have gB := fB.le
    rw [st1]
    simp [c3]
    obtain ⟨SB, hSB⟩ : ∃ SB, SB = grw (grw S (N + 12) nA) (nA + 7) nB := ⟨_, rfl⟩
    rw [← hSB] at hPB
    refine hnext (i + 1, _, SB, hpB, _) (by simp only; omega) ⟨by simp only; omega, st2, ?_, ?_, fun j hj => ?_, ?_⟩
    · have := hIA.sync e.1
      exact this.mono (by simp only; omega)
    · exact hPB.frame (fun _ _ => rfl) (by simp only; omega)
    · have hj1 := hout j hj
      have hS2 : ¬ grw S (N + 12) nA j := fun e => e.elim hj1.1 fun e => by omega
      refine ⟨fun e => by rw [hSB] at e; exact e.elim hS2 fun e => by omega, ?_⟩
      rw [fB.out j (by omega) hS2, fA.out j (by omega) hj1.1, lk_set, if_neg (by omega)]
      exact hj1.2
    · simp only; omega
  · obtain rfl : i = w.length := by omega
    have hsl := s8.sv.len'
    simp [lenA_sl, hsl]
    refine ⟨s8.sv.mv, ?_⟩
    have hm : l.length + 2 + 2 * w.length ≤ 2 ^ 20 - 10 := by omega
    refine (c_pSyncNames hn2 hI (hP.frame (fun _ _ => rfl) (by omega))).cW ?_
    rintro _ hpA nA ⟨_, hPA, fA⟩
    have hIA := hI.syncNames
    have hCA := calm_sync hC
    generalize d.syncNames.2 = dA at hPA hIA hCA
    have gA := fA.le
    simp
    refine (c_img hK hn2 hIA (hPA.frame (fun _ _ => rfl) (by omega))).cW ?_
    rintro v4 hpB nB ⟨gB, lB, iB⟩
    have hPB := hPA.frame (hp' := hpB) (nx' := nB) (fun j hj => lB j (by have := hPA.lt j hj; omega)) (by omega)
    simp [okc_mv iB.okc]
    refine (c_pCrash hK hn2 hIA (by omega) (hPB.frame (fun _ _ => rfl) (by omega)) _ again (.inl ⟨zg, rfl, hzg⟩) hgl more).cW ?_
    rintro _ hpC nC ⟨hPC, fC⟩
    have hIC := hIA.crash again more
    obtain ⟨hCC, himC⟩ := calm_crash hIA hCA again more
    generalize dA.crash again more = dC at hPC hIC hCC himC
    have gC := fC.le
    have iC := iB.keep fC (fun j hj => by have := hPA.lt j hj; omega) (by omega)
    simp [okc_mv iB.okc]
    refine (c_img hK hn2 hIC (hPC.frame (fun _ _ => rfl) (by omega))).cW ?_
    rintro v5 hpD nD ⟨gD, lD, iD⟩
    have iC' := iC.low lD (by omega)
    rw [himC] at iD
    obtain ⟨a3, a4, r3, r4⟩ := p_Images (K := K) (n := n) hK (by omega) iC' iD (by simp only [Dk.img, List.length_map, hCA.now]; exact hw64)
    simp [okc_mv iB.okc, okc_mv iD.okc]
    refine pn_use (r4 _ _ _) r3 rfl fun rd2 => ?_
    simp
    exact hQ _ _ _ rfl

end Ab
end Go.Proofs.Ytecjchghapgdeaa
