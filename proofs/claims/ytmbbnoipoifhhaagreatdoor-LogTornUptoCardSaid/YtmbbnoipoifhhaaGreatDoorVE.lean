/-
  DERIVED. A log on a disk of its own.
  Conditions: enough rounds, enough depth.
-/
import Derived.Test.YtmbbnoipoifhhaaGreatDoorV17
set_option linter.all false
set_option maxHeartbeats 4000000
namespace Go.Proofs.YtmbbnoipoifhhaaGreatDoor
namespace Ab
set_option maxRecDepth 100000
set_option maxHeartbeats 8000000
set_option linter.all false
attribute [local simp] wp_regW opsW_nil opsW_cons opsK_eq regK_no regK_draw oW_n oW_h oW_r oW_pn convA appendA appRow newsA rowsSz rowsOf isIntD makeSliceA elemOf rowsBuilt eqA eq1
attribute [-simp] fCall
variable {kl kd : Nat} {d : Dk} {U S T : Nat → Prop} {sv : AV} {ks : List Nat} {rvs : Nat → AV} {H H' : Hp} {N N' K n m : Nat} {l : Lg} {name : Bs}

def logN : Bs := [108, 111, 103]
theorem open_fresh (q sz : Nat) (h1 : 64 ≤ sz) (h2 : sz ≤ 4194304) : openL (newDk q) logN (sz : Nat) = (0, newDk q, some ⟨logN, sz, [], 0, 0⟩) := by
  unfold openL
  rw [if_neg (by omega), if_neg (by decide), Int.toNat_natCast]
  rfl
theorem c_fresh0 (hK : big K) (hn : 10 ≤ n) (q sz : Nat) (hq : q ≤ 16777216) (hsz : 64 ≤ sz ∧ sz ≤ 4194304) (N1 e : Nat) (h1 : N ≤ N1) :
    Sp K n 9 [.ptr (N1 + 11) 0 0, .s (ba logN), .i .i64 (sz : Nat)] (up (up H (N1 + 11) (0, .cells [.i .i64 (q : Nat), .mp (some (N1 + 9)), .vs true 0 [], .i .i64 0])) (N1 + 9) (0, .mp [])) (N1 + 14 + e)
      fun r H' N' => ∃ kl U sv ks rvs, r = .tup [.ptr kl 0 0, .i .i64 0] ∧ N1 + 14 + e ≤ N' ∧ (∀ j, U j → N ≤ j) ∧ LX kl (N1 + 11) ⟨logN, sz, [], 0, 0⟩ (newDk q) U sv ks rvs H' N' ∧ ∀ j, j < N → lk H' j = lk H j := by
  refine sp_cps fun Q hQ => ?_
  have h := c_gopen (K := K) (n := n) (m := 0) (name := logN) hK hn (newDk_inv q hq) (by omega) (new_rep (hp := up (up H (N1 + 11) (0, .cells [.i .i64 (q : Nat), .mp (some (N1 + 9)), .vs true 0 [], .i .i64 0])) (N1 + 9) (0, .mp [])) (nx := N) (nx' := N1 + 14 + e) (a := N1 + 9) (b := N1 + 11) (q := q) (by omega) (by omega) (by omega) (by omega) (by omega) (by rw [lk_set, if_pos rfl]) (by rw [lk_set, if_neg (by omega), lk_set, if_pos rfl])) (sz : Nat)
  rw [open_fresh _ _ hsz.1 hsz.2] at h
  refine h.cW ?_
  rintro _ H2 N2 ⟨F, kl, sv, ks, rvs, rfl, L⟩
  exact hQ _ _ _ ⟨kl, _, sv, ks, rvs, rfl, F.le, fun j hj => hj.elim (fun h => h.1) (fun h => by omega), L, fun j hj => (F.out j (by omega) (fun e => absurd e.1 (by omega))).trans (by rw [lk_set, lk_set, if_neg (by omega), if_neg (by omega)])⟩
end Ab
end Go.Proofs.YtmbbnoipoifhhaaGreatDoor

/-
  DERIVED. What holds of a log through the calls of a law: bounds, and what told looks at. In plain Lean.
  Conditions: none of a program's.
-/
namespace Go.Proofs.YtmbbnoipoifhhaaGreatDoor
namespace Ab
set_option linter.all false
set_option maxRecDepth 100000

theorem fresh_inv (q sz D : Nat) (hq : q ≤ 16777216) : LInv 0 [] D ⟨logN, sz, [], 0, 0⟩ (newDk q) := by
  have hc : Clean logN [] sz D (newDk q) (fun _ => (1, [])) := by
    refine ⟨rfl, rfl, rfl, ?_, ?_, fun _ => rfl, ?_⟩
    · have hn : (newDk q).now = [] := rfl
      rw [hn]
      exact ⟨fun e he => absurd he (by simp), fun e he => absurd he (by simp), trivial, fun _ => rfl, fun e he => by simp at he, fun e he => by simp at he⟩
    · intro e he
      simp [newDk, Dk.now] at he
    · intro w e he
      simp [newDk, Dk.now] at he
  exact hc.inv (newDk_inv q hq) (by decide) (Nat.zero_le _)

/-- Segments know how long their files are. -/
def SzOk (segs : List Sg) : Prop := ∀ s ∈ segs, s.size = 24 + recsN s.recs
theorem sz_takes {s : Sg} {b : Bs} (h : s.size = 24 + recsN s.recs) : (s.takes b).size = 24 + recsN (s.takes b).recs := by
  simp only [Sg.takes, recsN_app, recsN, h]
  omega
theorem sz_begins {l : Lg} {d : Dk} {no : Nat} {b : Bs} (h : SzOk l.segs) : SzOk (l.begins d no b).2.2.segs := by
  unfold Lg.begins
  repeat' split
  all_goals first | exact h | skip
  intro s hs
  rcases List.mem_append.1 hs with h1 | h1
  · exact h s h1
  · rw [List.mem_singleton.1 h1]
    exact sz_takes rfl
theorem sz_append {l : Lg} {d : Dk} {b : Bs} (h : SzOk l.segs) : SzOk (l.append d b).2.2.2.segs := by
  unfold Lg.append
  repeat' split
  all_goals first | exact h | exact sz_begins h | skip
  rename_i s hs _ _
  intro x hx
  rcases List.mem_append.1 hx with h1 | h1
  · exact h x (List.dropLast_subset _ h1)
  · rw [List.mem_singleton.1 h1]
    exact sz_takes (h s (List.mem_of_getLast? hs))
theorem commit_segs (l : Lg) (d : Dk) : (l.commit d).2.2.segs = l.segs ∧ (l.commit d).2.2.name = l.name ∧ (l.commit d).2.2.size = l.size := by
  unfold Lg.commit
  repeat' split
  all_goals exact ⟨rfl, rfl, rfl⟩
theorem dropL_sub {name : Bs} {upto : Nat} : ∀ {segs : List Sg} {d : Dk}, (dropL name upto segs d).2.2 <:+ segs
  | [], d => List.suffix_refl _
  | [s], d => List.suffix_refl _
  | s :: s' :: r, d => by
    unfold dropL
    split
    · split
      · exact List.suffix_refl _
      · exact dropL_sub.trans (List.suffix_cons _ _)
    · exact List.suffix_refl _
theorem sz_drop {l : Lg} {d : Dk} {upto : Nat} (h : SzOk l.segs) : SzOk (l.drop d upto).2.2.segs := by
  unfold Lg.drop
  split
  · rw [(commit_segs l d).1]
    exact h
  · intro s hs
    have := dropL_sub.subset hs
    rw [(commit_segs l d).1] at this
    exact h s this
theorem begins_same (l : Lg) (d : Dk) (no : Nat) (b : Bs) : (l.begins d no b).2.2.name = l.name ∧ (l.begins d no b).2.2.size = l.size := by
  unfold Lg.begins
  repeat' split
  all_goals exact ⟨rfl, rfl⟩
theorem append_same (l : Lg) (d : Dk) (b : Bs) : (l.append d b).2.2.2.name = l.name ∧ (l.append d b).2.2.2.size = l.size := by
  unfold Lg.append
  repeat' split
  all_goals first | exact ⟨rfl, rfl⟩ | exact begins_same _ _ _ _
theorem drop_same (l : Lg) (d : Dk) (upto : Nat) : (l.drop d upto).2.2.name = l.name ∧ (l.drop d upto).2.2.size = l.size := by
  unfold Lg.drop
  split
  · exact (commit_segs l d).2
  · exact (commit_segs l d).2
theorem LInv.szLive {n : Nat} {all : List Bs} {D : Nat} {l : Lg} {d : Dk} (h : LInv n all D l d) (hd : d.dead = false) : SzOk l.segs := by
  obtain ⟨G, hc, hl | hg⟩ := h.is
  · rw [hl.segs]
    intro s hs
    obtain ⟨e, he, rfl⟩ := List.mem_map.1 hs
    rfl
  · exact absurd hg.1 (by rw [hd]; simp)

structure CB (sz k : Nat) (s : CSt) : Prop where
  cin : CIn k s
  short : ∀ b ∈ s.all, b.length ≤ maxM
  szs : SzOk s.l.segs
  name : s.l.name = logN
  size : s.l.size = sz
theorem CB.step {sz k : Nat} {s : CSt} (h : CB sz k s) (hk : 2 * k + 80 < W64) (a : CAct) (ha : -9223372036854775808 ≤ a.most ∧ a.most ≤ 9223372036854775807) : CB sz (k + 1) (s.step a) := by
  refine ⟨h.cin.step hk a ha, ?_, ?_, ?_, ?_⟩
  all_goals
    have hI := h.cin.base.inv
    have hfew := hI.few
    unfold CSt.step
  · split
    · split
      · exact h.short
      · rename_i c
        rcases append_ok hI (by omega) a.b with ⟨h1, h2, h3, h4⟩ | ⟨h1, h2, h3⟩
        · intro x hx
          rcases List.mem_append.1 hx with h5 | h5
          · exact h.short x h5
          · rw [List.mem_singleton.1 h5]; exact h3
        · exact absurd h1 c
    split
    · exact h.short
    split
    · exact h.short
    split
    · split
      · exact h.short
      · exact h.short
    split
    · split
      · exact fun x hx => h.short x (List.mem_of_mem_take hx)
      · exact h.short
    · exact h.short
  · split
    · split
      · exact sz_append h.szs
      · exact sz_append h.szs
    split
    · show SzOk (s.l.commit s.d).2.2.segs
      rw [(commit_segs _ _).1]
      exact h.szs
    split
    · exact sz_drop h.szs
    split
    · split
      · exact h.szs
      · exact h.szs
    split
    · obtain ⟨d', l', g1, g2, g3, g4, g5, g6, g7, g8, g9⟩ := crash_open hI (by omega) h.cin.base.size a.keeps a.names
      rw [g1]
      exact g6.szLive g7.1
    · exact h.szs
  · split
    · split
      · exact (append_same _ _ _).1.trans h.name
      · exact (append_same _ _ _).1.trans h.name
    split
    · exact (commit_segs _ _).2.1.trans h.name
    split
    · exact (drop_same _ _ _).1.trans h.name
    split
    · split
      · exact h.name
      · exact h.name
    split
    · obtain ⟨d', l', g1, g2, g3, g4, g5, g6, g7, g8, g9⟩ := crash_open hI (by omega) h.cin.base.size a.keeps a.names
      rw [g1]
      exact g2.trans h.name
    · exact h.name
  · split
    · split
      · exact (append_same _ _ _).2.trans h.size
      · exact (append_same _ _ _).2.trans h.size
    split
    · exact (commit_segs _ _).2.2.trans h.size
    split
    · exact (drop_same _ _ _).2.trans h.size
    split
    · split
      · exact h.size
      · exact h.size
    split
    · obtain ⟨d', l', g1, g2, g3, g4, g5, g6, g7, g8, g9⟩ := crash_open hI (by omega) h.cin.base.size a.keeps a.names
      rw [g1]
      exact g3.trans h.size
    · exact h.size

theorem recsN_le : ∀ (r : List Bs), (∀ b ∈ r, b.length ≤ maxM) → recsN r ≤ r.length * 65548
  | [], _ => Nat.le_refl _
  | b :: r, h => by
    have h1 := recsN_le r fun x hx => h x (List.mem_cons_of_mem _ hx)
    have h2 := h b (List.mem_cons_self ..)
    simp only [recsN, List.length_cons]
    unfold maxM at h2
    omega
theorem segs_in {all : List Bs} : ∀ {segs : List Sg} {n : Nat}, 1 ≤ n → SegsAre all n segs → ∀ s ∈ segs, s.no ≤ all.length + 1 ∧ s.recs.length ≤ all.length ∧ ∀ b ∈ s.recs, b ∈ all
  | [], n, hn, h => fun s hs => absurd hs (by simp)
  | x :: r, n, hn, h => by
    intro s hs
    have hle := (segs_all hn h).2
    obtain ⟨h1, h2, h3, h4⟩ := h
    rcases List.mem_cons.1 hs with rfl | hs
    · have hl := h3.length_le
      rw [List.length_drop] at hl
      exact ⟨by omega, by omega, fun b hb => List.mem_of_mem_drop (h3.subset hb)⟩
    · exact segs_in (by omega) h4 s hs
theorem named_le {s : Bs} (h : namedN s = true) : s.length ≤ 40 := by
  simp [namedN] at h
  omega
theorem LInv.lb {n : Nat} {all : List Bs} {D : Nat} {l : Lg} {d : Dk} (h : LInv n all D l d) (hn : n ≤ 2 ^ 20) (hs : ∀ b ∈ all, b.length ≤ maxM) (hz : SzOk l.segs) : LB l := by
  have hfew := h.few
  have hsf := segs_few h
  obtain ⟨k, hk, hk0, hsa, hkD⟩ := h.tale.are
  have hin := segs_in hk hsa
  have hlast := h.tale.last
  refine ⟨named_le h.named, by unfold W64; omega, by omega, fun s m => ?_, fun s m b hb => ?_⟩
  · obtain ⟨i1, i2, i3⟩ := hin s m
    have hr := recsN_le s.recs fun b hb => hs b (i3 b hb)
    have hzz := hz s m
    exact ⟨by unfold W64; omega, by omega, by omega⟩
  · have := hs b ((hin s m).2.2 b hb)
    unfold maxM at this
    omega
theorem LInv.allLen {n : Nat} {all : List Bs} {D : Nat} {l : Lg} {d : Dk} (h : LInv n all D l d) (hn : n ≤ 2 ^ 20) : l.all.length ≤ 2 ^ 29 := by
  have hfew := h.few
  obtain ⟨h1, h2, h3, h4⟩ := tale_first h.tale (by unfold W64; omega)
  rw [Lg.all, segs_numbers h1 h4, number_recs _ _ (by rw [List.length_drop]; unfold W64; omega)]
  simp
  omega
theorem LInv.told {n : Nat} {all : List Bs} {D : Nat} {l : Lg} {d : Dk} (h : LInv n all D l d) (hn : n ≤ 2 ^ 20) : ToldOk l all := by
  have hfew := h.few
  have hall : all.length + 1 < W64 := by unfold W64; omega
  obtain ⟨h1, h2, h3, h4⟩ := tale_first h.tale hall
  have hr := tale_read h.tale hall
  have hlast := h.tale.last
  refine ⟨h1, by omega, by omega, by rw [hr], by rw [hr, hlast]; simp, fun i e he => ?_⟩
  rw [hr] at he
  simp only [List.getElem?_map] at he
  obtain ⟨j, hj, rfl⟩ := Option.map_eq_some_iff.1 he
  obtain ⟨hj1, hj2⟩ := List.getElem?_eq_some_iff.1 hj
  have hj3 : i < all.length + 1 - l.first := by simpa using hj1
  have hji : j = i := by simpa using hj2.symm
  subst hji
  refine ⟨rfl, ?_⟩
  have : (all.drop (l.first - 1))[j]? = all[l.first + j - 1]? := by
    rw [List.getElem?_drop]
    congr 1
    omega
  rw [this]
  obtain ⟨x, hx⟩ : ∃ x, all[l.first + j - 1]? = some x := ⟨_, List.getElem?_eq_getElem (by omega)⟩
  rw [hx]
  rfl

end Ab
end Go.Proofs.YtmbbnoipoifhhaaGreatDoor

/-
  DERIVED. The log lives: the law's own small trial.
  Conditions: enough rounds, enough depth.
-/
namespace Go.Proofs.YtmbbnoipoifhhaaGreatDoor
namespace Ab
set_option maxRecDepth 100000
set_option maxHeartbeats 8000000
set_option linter.all false
attribute [local simp] wp_regW opsW_nil opsW_cons opsK_eq regK_no regK_draw oW_n oW_h oW_r oW_pn convA appendA appRow newsA rowsSz rowsOf isIntD makeSliceA elemOf rowsBuilt eqA eq1
attribute [-simp] fCall
variable {kl kd : Nat} {d : Dk} {U S T : Nat → Prop} {sv : AV} {ks : List Nat} {rvs : Nat → AV} {H H' : Hp} {N N' K n m : Nat} {l : Lg} {name : Bs}

def vL : Lg := ⟨logN, 64, [], 0, 0⟩
def vA : Int × Nat × Dk × Lg := vL.append (newDk 1000) [97]
theorem vA0 : vA.1 = 0 := by decide +kernel
theorem vA1 : vA.2.1 = 1 := by decide +kernel
theorem vA2 : (vA.2.2.1.look (fileN logN 1)).1 = 0 := by decide +kernel
theorem vA3 : ((vA.2.2.1.look (fileN logN 1)).2.map fun f => f.b.length) = some 37 := by decide +kernel
theorem vA4 : vA.2.2.2.read 1 9 = (0, [(1, [97])]) := by decide +kernel
theorem vA5 : (vA.2.2.2.commit vA.2.2.1).1 = 0 := by decide +kernel
theorem vA6 : (vA.2.2.2.commit vA.2.2.1).2.2.fast = 1 := by decide +kernel

theorem c_wlives (hK : big K) (hn : 11 ≤ n) : Sp K n 7 [] H N fun r _ _ => r = .b true := by
  refine sp_cps fun Q hQ => ?_
  obtain ⟨n, rfl⟩ : ∃ m, n = m + 1 := ⟨n - 1, by omega⟩
  refine sp_of rfl (run_wp Tryz.func7 rfl (by simp [Tryz.f7]) ?_)
  have eN : ∀ nx, callA cfg K n 8 [.i .i64 1000] [] nx = some (.tup [.ptr (nx + 11) 0 0, .i .i64 0], [(nx + 9, (0, .mp [])), (nx + 11, (0, .cells [.i .i64 1000, .mp (some (nx + 9)), .vs true 0 [], .i .i64 0]))], nx + 14) :=
    fun nx => c_pNew1 (K := K) (n := n) (nx := nx) (by omega) 1000 (by omega)
  have lgS : ({ data := #[108, 111, 103] } : ByteArray) = ba logN := rfl
  have lgF : ({ data := #[108, 111, 103, 46, 48, 48, 48, 48, 48, 48, 48, 48, 48, 48, 48, 48, 48, 48, 48, 49] } : ByteArray) = ba (fileN logN 1) := by decide +kernel
  simp [eN, lgS, lgF]
  refine Sp.cW (c_fresh0 (N := N) hK (by omega) 1000 64 (by omega) (by omega) _ _ (by omega)) ?_
  rintro _ H2 N2 ⟨kl, U, sv, ks, rvs, rfl, hle, hU, L, hH⟩
  have hB : LB vL := (fresh_inv 1000 64 0 (by omega)).lb (by omega) (fun _ h => absurd h (by simp)) (fun _ h => absurd h (by simp))
  simp [lk_set]
  have lw : ∀ j, j < N2 → lk (up (up H2 (N2 + 14 + 1) (0, .arr 1 [[.i .u8 97]])) (N2 + 14 + 1) (0, .arr 1 [[.i .u8 97]])) j = lk H2 j := fun j hj => by
    rw [lk_set, if_neg (by omega), lk_set, if_neg (by omega)]
  refine Sp.cW (c_lappend (b := [97]) (U := U) hK (by omega) (newDk_inv 1000 (by omega)) (by omega) hB (by decide) (L.low lw (by omega)) (by rw [lk_set, if_pos rfl]; rfl) (fun e => absurd (L.lt _ e) (by omega)) (by omega) (by decide)) ?_
  rintro _ H3 N3 ⟨rfl, F3, sv3, ks3, rvs3, L3⟩
  change LX kl (N + 7 + 11) vA.2.2.2 vA.2.2.1 _ _ _ _ _ _ at L3
  have I1 : LInv 4 [[97]] 0 vA.2.2.2 vA.2.2.1 := by
    rcases append_ok (fresh_inv 1000 64 0 (by omega)) (by decide) [97] with ⟨h1, h2, h3, h4⟩ | ⟨h1, h2, h3⟩
    · exact h4
    · exact absurd vA0 h1
  have B1 : LB vA.2.2.2 := I1.lb (by omega) (by decide) (sz_append fun s h => absurd (show s ∈ ([] : List Sg) from h) (by simp))
  have r0 : (vL.append (newDk 1000) [97]).1 = 0 := vA0
  have r1 : (vL.append (newDk 1000) [97]).2.1 = 1 := vA1
  have hF3 := F3.le
  simp [r0, r1]
  refine Sp.cW (lx_size hK (by omega) I1.inv (L3.low (N' := N3 + 7) (fun _ _ => rfl) (by omega)) (fileN logN 1)) ?_
  rintro _ H4 N4 ⟨rfl, e4, hN4⟩
  have e4' := e4.symm
  subst e4'
  obtain ⟨f, hf1, hf2⟩ := Option.map_eq_some_iff.1 vA3
  rw [vA2, hf1]
  simp only [hf2]
  simp
  have L4 := L3.low (N' := N4 + 7) (fun _ _ => rfl) (by omega)
  refine Sp.cW (c_lread hK (by omega) B1 (I1.allLen (by omega)) L4 (from_ := 1) (most := 9) (by decide)) ?_
  rw [vA4]
  rintro _ H5 N5 ⟨hN5, hH5, rv, rfl, hrv⟩
  have L5 := L4.low hH5 hN5
  rcases hrv with ⟨h, _⟩ | ⟨a, g, rows, _, rfl, hrow, ha, hR1, hR2⟩
  · simp at h
  obtain ⟨row, rfl⟩ := List.length_eq_one_iff.1 hR1
  obtain ⟨v, rfl, hv⟩ := hR2 0 row (1, [97]) rfl rfl
  rcases hv with ⟨h, _⟩ | ⟨kb, gb, rfl, b1, b2⟩
  · exact absurd h (by decide)
  have sl : slLen (.rs a g 0 1 2) = some 1 := rfl
  have hrow' : lk H5 a = some (g, .arr 2 [[.i .u64 1, .rs kb gb 0 1 1]]) := hrow
  have b1' : lk H5 kb = some (gb, .arr 1 [[.i .u8 97]]) := b1
  have bo : bytesOf [[.i .u8 97]] = some [97] := bytesOf_rows [97]
  simp [lenA_sl, sl, hrow', b1', bo]
  refine Sp.cW (c_Commit hK (by omega) I1.inv B1 (L5.low (fun _ _ => rfl) (by omega))) ?_
  rintro _ H6 N6 ⟨rfl, F6, sv6, ks6, rvs6, L6⟩
  have I2 : LInv 6 [[97]] 0 (vA.2.2.2.commit vA.2.2.1).2.2 (vA.2.2.2.commit vA.2.2.1).2.1 := by
    rcases commit_ok I1 with ⟨h1, h2, h3⟩ | ⟨h1, h2, h3, h4⟩
    · exact absurd vA5 (by rw [h1]; decide)
    · exact h2
  have L7 := L6.low (N' := N6 + 2) (fun _ _ => rfl) (by omega)
  rw [vA5]
  have B2 : LB (vA.2.2.2.commit vA.2.2.1).2.2 := I2.lb (by omega) (by decide) (by rw [(commit_segs _ _).1]; exact sz_append fun s h => absurd (show s ∈ ([] : List Sg) from h) (by simp))
  simp
  refine Sp.cW (c_LFast (by omega) L6) ?_
  rintro _ H8 N8 ⟨rfl, e8, hN8⟩
  have e8' := e8.symm
  subst e8'
  rw [vA6]
  have fa : lk H6 a = some (g, .arr 2 [[.i .u64 1, .rs kb gb 0 1 1]]) := (F6.out a (by have := ha.2; omega) (fun e => absurd (L3.lt _ e) (by have := ha.1; omega))).trans hrow
  have fb : lk H6 kb = some (gb, .arr 1 [[.i .u8 97]]) := (F6.out kb (by have := b2.2; omega) (fun e => absurd (L3.lt _ e) (by have := b2.1; omega))).trans b1
  simp
  exact hQ _ _ _ rfl
theorem p_wlives (hK : big K) (hn : 11 ≤ n) : pR (callA cfg K n) 7 [] = some (.b true) := by
  obtain ⟨n, rfl⟩ : ∃ m, n = m + 1 := ⟨n - 1, by omega⟩
  obtain ⟨r, hp', nx', h1, h2⟩ := c_wlives (K := K) (n := n + 1) (H := []) (N := 0) hK hn
  unfold pR
  rw [h1, h2]
  rfl

end Ab
end Go.Proofs.YtmbbnoipoifhhaaGreatDoor
