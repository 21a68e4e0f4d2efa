/-
  DERIVED. LogCrash: the law's function answers true.
  Conditions: enough rounds, enough depth; bounded lengths.
-/
import Derived.Test.YtmbbnoipoifhhaaGreatDoorVE
set_option linter.all false
set_option maxHeartbeats 4000000
namespace Go.Proofs.YtmbbnoipoifhhaaGreatDoor
namespace Ab
set_option maxRecDepth 100000
set_option maxHeartbeats 8000000
set_option linter.all false
attribute [local simp] wp_regW opsW_nil opsW_cons opsK_eq regK_no regK_draw oW_n oW_h oW_r oW_pn convA appendA appRow newsA rowsSz rowsOf isIntD makeSliceA elemOf rowsBuilt eqA eq1
attribute [-simp] fCall
variable {kl kd : Nat} {d : Dk} {U S T : Nat → Prop} {sv : AV} {ks : List Nat} {rvs : Nat → AV} {H H' : Hp} {N N' K n m : Nat} {l : Lg} {name : Bs}

def cactV (a : CAct) (how zb zk : Bool) : List AV := [.i .i64 a.kind, .i .i64 a.most, .i .i64 a.names, .vs zb 1 (byteRows a.b), .i .u64 (a.no : Nat), .b how, .vs zk 1 (intRows a.keeps)]
def CAct.ok (a : CAct) : Prop := a.b.length ≤ 2 ^ 25 ∧ a.no < W64 ∧ a.keeps.length ≤ 2 ^ 30 ∧ -9223372036854775808 ≤ a.most ∧ a.most ≤ 9223372036854775807
def CActRows (rows : List (List AV)) (l : List CAct) : Prop := rows.length = l.length ∧ ∀ (i : Nat) (r : List AV) (a : CAct), rows[i]? = some r → l[i]? = some a → ∃ how zb zk, r = cactV a how zb zk ∧ (zb = true → a.b = []) ∧ (zk = true → a.keeps = [])

/-- The state behind some calls. -/
def crashS (sz q : Nat) (acts : List CAct) (i : Nat) : CSt := (acts.take i).foldl CSt.step ⟨newDk q, ⟨logN, sz, [], 0, 0⟩, [], 0, false⟩
/-- How it lies. -/
def CrashI (kd : Nat) (s : CSt) (kl : Nat) (av : AV) (H : Hp) (N : Nat) : Prop := ∃ U sv ks rvs, LX kl kd s.l s.d U sv ks rvs H N ∧ AllV H av s.all fun j => ¬ U j ∧ j < N
def crashSt (x : Int) (z : Bool) (rows : List (List AV)) (kd : Nat) (i : Nat × CSt × Nat × AV × Hp × Nat) : St :=
  { env := [(1, .i .i64 x), (2, .vs z 7 rows), (7, .ptr kd 0 0), (8, .ptr i.2.2.1 0 0), (9, i.2.2.2.1), (10, .i .u64 (i.2.1.dropped : Nat)), (11, .b i.2.1.stopping), (12, .i .i64 (i.1 : Nat))], loc := [], hp := i.2.2.2.2.1, nx := i.2.2.2.2.2 }
theorem CrashI.low {s : CSt} {av : AV} (h : CrashI kd s kl av H N) (hf : ∀ j, j < N → lk H' j = lk H j) (hn : N ≤ N') : CrashI kd s kl av H' N' := by
  obtain ⟨U, sv, ks, rvs, h1, h2⟩ := h
  exact ⟨U, sv, ks, rvs, h1.low hf hn, h2.keep (fun j hj => hf j hj.2) fun j hj => ⟨hj.1, by have := hj.2; omega⟩⟩
theorem CB.lb {sz k : Nat} {s : CSt} (h : CB sz k s) (hk : k ≤ 2 ^ 18 + 1) : LB s.l := h.cin.base.inv.lb (by omega) h.short h.szs
theorem crash_told {sz k : Nat} {s : CSt} {av : AV} (hK : big K) (hn : 5 ≤ n) (hB : CB sz k s) (hk : k ≤ 2 ^ 18 + 1) (h : CrashI kd s kl av H N) :
    Sp K n 16 [.ptr kl 0 0, av] H N fun r H' N' => r = .b true ∧ N ≤ N' ∧ CrashI kd s kl av H' N' := by
  obtain ⟨U, sv, ks, rvs, h1, h2⟩ := h
  have hI := hB.cin.base.inv
  have hf := hB.cin.few
  refine (c_told hK hn (hB.lb hk) (hI.allLen (by omega)) h1 h2 (fun j hj => hj.2) (by omega) (hI.told (by omega))).mono fun r H' N' ⟨e1, e2, e3⟩ => ⟨e1, e2, ?_⟩
  exact CrashI.low ⟨U, sv, ks, rvs, h1, h2⟩ e3 e2
theorem crash_first {sz k : Nat} {s : CSt} {av : AV} (hn : 2 ≤ n) (hB : CB sz k s) (hk : k ≤ 2 ^ 18 + 1) (h : CrashI kd s kl av H N) :
    Sp K n 25 [.ptr kl 0 0] H N fun r H' N' => r = .i .u64 (s.l.first : Nat) ∧ H' = H ∧ N ≤ N' := by
  obtain ⟨U, sv, ks, rvs, h1, h2⟩ := h
  exact c_First hn (hB.lb hk) h1
theorem CB.first {sz k : Nat} {s : CSt} (hB : CB sz k s) (hk : k ≤ 2 ^ 18 + 1) : s.l.first ≤ s.dropped + 1 ∧ s.l.first ≤ k + 1 := by
  have hI := hB.cin.base.inv
  have hf := hB.cin.few
  obtain ⟨h1, h2, h3, h4⟩ := tale_first hI.tale (by unfold W64; omega)
  exact ⟨h3, by omega⟩

theorem crash_k0 (hK : big K) (hn : 11 ≤ n) {x : Int} {z : Bool} {rows : List (List AV)} {acts : List CAct} {i sz : Nat} {a : CAct} {s : CSt} {av : AV} {Next : St → Prop} {Q : Ex × St → Prop} (hkd : a.kind = 0)
    (hz : z = true → rows = []) (hr : CActRows rows acts) (hl : acts.length ≤ 150000) (ha : acts[i]? = some a) (hok : a.ok) (hB : CB sz i s) (hB' : CB sz (i + 1) (s.step a)) (hI : CrashI kd s kl av H N) (hD : s.dropped ≤ i + 1)
    (hnext : ∀ kl' av' H' N', CrashI kd (s.step a) kl' av' H' N' → Next (crashSt x z rows kd (i + 1, s.step a, kl', av', H', N'))) :
    wp (codeA cfg (callA cfg K n) K 5 (loopOf Tryz.f5 0) (crashSt x z rows kd (i, s, kl, av, H, N))) (loopQ Next Q) := by
  obtain ⟨hi, rfl⟩ := List.getElem?_eq_some_iff.1 ha
  obtain ⟨r, hrow⟩ : ∃ r, rows[i]? = some r := ⟨_, List.getElem?_eq_getElem (by rw [hr.1]; exact hi)⟩
  obtain ⟨how, zb, zk, rfl, hzb, hzk⟩ := hr.2 i r _ hrow ha
  generalize acts[i] = a at *
  have hlen := hr.1
  have c1 : (i : Int) < acts.length := by omega
  have zf : z = false := by
    cases z
    · rfl
    · rw [hz rfl] at hrow
      simp at hrow
  subst zf
  obtain ⟨U, sv, ks, rvs, L, hA⟩ := hI
  have hLB := hB.lb (by omega)
  have hsz := hB.cin.base.size
  obtain ⟨o1, o2, o3, o4, o5⟩ := hok
  have hInv := hB.cin.base.inv
  have hfew := hB.cin.few
  simp [loopOf, loopsIn, Tryz.f5, crashSt, lenA_sl, hlen, c1, hrow, cactV, hkd]
  refine f_use (args' := [.vs zb 1 (byteRows a.b)]) (by simp [frz_bytes]) (c_wown (by omega) zb a.b hzb (by omega)) (by simp) ?_
  simp
  refine Sp.cW (c_lappend (b := a.b) (U := U) hK (by omega) hInv.inv (by omega) hLB (by omega) (L.low (fun j hj => by rw [lk_set, if_neg (by omega)]) (by omega)) (by rw [lk_set, if_pos rfl]) (fun e => absurd (L.lt _ e) (by omega)) (by omega) o1) ?_
  rintro _ H3 N3 ⟨rfl, F3, sv3, ks3, rvs3, L3⟩
  have hF3 := F3.le
  have hAP : ∀ j, (¬ U j ∧ j < N) → ¬ grw U (N + 4 + 6 + 2 + 2 + 10 + 8) N3 j ∧ j < N3 := fun j hj => ⟨fun e => e.elim hj.1 fun e => by have := hj.2; omega, by have := hj.2; omega⟩
  have hfr : ∀ j, (¬ U j ∧ j < N) → lk H3 j = lk H j := fun j hj => (F3.out j (by have := hj.2; omega) hj.1).trans (by rw [lk_set, if_neg (by have := hj.2; omega)])
  rcases append_ok hInv (by unfold W64; omega) a.b with ⟨g1, g2, g3, g4⟩ | ⟨g1, g2, g4⟩
  · have hst : s.step a = { s with d := (s.l.append s.d a.b).2.2.1, l := (s.l.append s.d a.b).2.2.2, all := s.all ++ [a.b] } := by unfold CSt.step; rw [if_pos hkd, if_neg (by rw [g1]; simp)]
    have hB2 := hB'
    rw [hst] at hB' hnext
    obtain ⟨s1, s2⟩ := hA.sl
    have w1 : IntKind.u64.wrap (s.all.length : Int) = (s.all.length : Nat) := wrap_u64' (by omega)
    have w2 : IntKind.u64.wrap ((s.all.length : Int) + 1) = ((s.all.length + 1 : Nat) : Int) := by rw [wrap_u64Z]; unfold W64 at *; omega
    have bo := bytesOf_rows a.b
    have ee : ∀ x : Bs, ({ data := x.toArray } : ByteArray) = ba x := fun _ => rfl
    have w3 : IntKind.u64.wrap ((s.dropped : Int) + 1) = ((s.dropped + 1 : Nat) : Int) := by rw [wrap_u64Z]; unfold W64 at *; omega
    have w4 : IntKind.i64.wrap ((i : Int) + 1) = ((i + 1 : Nat) : Int) := by rw [wrap_i64 (by omega) (by omega)]; omega
    have hA3 : AllV H3 av s.all fun j => ¬ U j ∧ j < N := hA.keep hfr fun _ h => h
    have done : ∀ av' H' N', N3 ≤ N' → (∀ j, grw U (N + 4 + 6 + 2 + 2 + 10 + 8) N3 j → lk H' j = lk H3 j) → AllV H' av' (s.all ++ [a.b]) (fun j => ¬ grw U (N + 4 + 6 + 2 + 2 + 10 + 8) N3 j ∧ j < N') → CrashI kd { s with d := (s.l.append s.d a.b).2.2.1, l := (s.l.append s.d a.b).2.2.2, all := s.all ++ [a.b] } kl av' H' N' := fun av' H' N' h1 h2 h3 => ⟨_, sv3, ks3, rvs3, L3.frame h2 h1, h3⟩
    have u1 : IntKind.u64.wrap (IntKind.u64.wrap 0 + 1) = 1 := by decide
    have z0 : (zb = true ∧ a.b = []) ∨ zb = false := by cases zb <;> simp_all
    rcases hA3 with ⟨h0, rfl⟩ | ⟨ka, ga, rws, rfl, ha1, ha2, ha3, ha4⟩
    · have a1 : ∀ H' N' k g, N3 ≤ k → k < N' → lk H' k = some (g, .arr 1 [[.s (ba a.b)]]) → AllV H' (.rs k g 0 1 1) (s.all ++ [a.b]) fun j => ¬ grw U (N + 4 + 6 + 2 + 2 + 10 + 8) N3 j ∧ j < N' := fun H' N' k g h1 h2 h3 => by
        rw [h0]
        exact .inr ⟨k, g, _, rfl, h3, rfl, Nat.le_refl _, fun e => absurd (L3.lt _ e) (by omega), h2⟩
      rcases z0 with ⟨rfl, b0⟩ | rfl
      · have ebo : bytesOf [] = some [] := rfl
        have emp : ba [] = ba a.b := by rw [b0]
        have b1 : byteRows a.b = [] := by rw [b0]; rfl
        simp [g1, g2, lenA_sl, s1, s2, w1, w2, bo, ee, h0, u1, b1, ebo, emp, ba_list, lk_set]
        refine ⟨by decide, ?_⟩
        refine Sp.cW (crash_told hK (by omega) hB' (by omega) (done _ _ _ (by omega) (fun j hj => by have := L3.lt j hj; rw [lk_set, if_neg (by omega), lk_set, if_neg (by omega)]) (a1 _ _ _ _ (by omega) (by omega) (by rw [lk_set, if_pos rfl])))) ?_
        rintro _ H4 N4 ⟨rfl, hN4, C4⟩
        simp
        refine Sp.cW (crash_first (by omega) hB' (by omega) C4) ?_
        rintro _ H5 N5 ⟨rfl, e5, hN5⟩
        have e5' := e5.symm
        subst e5'
        have hf1 := hB'.first (by omega)
        simp only at hf1
        have k1 : ¬ (s.dropped : Int) + 1 < ((s.l.append s.d a.b).2.2.2.first : Nat) := by omega
        simp [w3, w4, k1]
        exact hnext _ _ _ _ (C4.low (fun _ _ => rfl) (by omega))
      · simp [g1, g2, lenA_sl, s1, s2, w1, w2, bo, ee, h0, u1, ba_list, lk_set]
        refine ⟨by decide, ?_⟩
        refine Sp.cW (crash_told hK (by omega) hB' (by omega) (done _ _ _ (by omega) (fun j hj => by have := L3.lt j hj; rw [lk_set, if_neg (by omega), lk_set, if_neg (by omega)]) (a1 _ _ _ _ (by omega) (by omega) (by rw [lk_set, if_pos rfl])))) ?_
        rintro _ H4 N4 ⟨rfl, hN4, C4⟩
        simp
        refine Sp.cW (crash_first (by omega) hB' (by omega) C4) ?_
        rintro _ H5 N5 ⟨rfl, e5, hN5⟩
        have e5' := e5.symm
        subst e5'
        have hf1 := hB'.first (by omega)
        simp only at hf1
        have k1 : ¬ (s.dropped : Int) + 1 < ((s.l.append s.d a.b).2.2.2.first : Nat) := by omega
        simp [w3, w4, k1]
        exact hnext _ _ _ _ (C4.low (fun _ _ => rfl) (by omega))
    · have fk : ¬ ka = N3 + 2 + 6 + 4 := by have := ha4.2; omega
      have hsh : shown rws 0 s.all.length = strRows s.all := by
        unfold shown
        split
        · rename_i e; rw [← ha2, List.drop_zero, List.take_of_length_le (by omega)]
        · rw [List.drop_zero, ha2]
      have mb : (s.all.length + 1) * 17 ≤ mostBytes := by rw [mostB]; omega
      rcases z0 with ⟨rfl, b0⟩ | rfl
      · have ebo : bytesOf [] = some [] := rfl
        have emp : ba [] = ba a.b := by rw [b0]
        have b1 : byteRows a.b = [] := by rw [b0]; rfl
        simp [g1, g2, lenA_sl, s1, s2, w1, w2, bo, ee, ha1, ha2, ha3, b1, ebo, emp, ba_list, lk_set, fk, mb]
        refine Sp.cW (crash_told hK (by omega) hB' (by omega) (done _ _ _ (by omega) (fun j hj => by have := L3.lt j hj; have : j ≠ ka := (fun e => absurd (e ▸ hj) (hAP ka ha4).1); rw [lk_set, if_neg (by omega), lk_set, if_neg (by omega)]) (.inr ⟨ka, ga + 1, _, by simp, by rw [lk_set, if_pos rfl], by rw [hsh]; simp [strRows, List.take_of_length_le], by rw [hsh]; simp, (hAP ka ha4).1, by have := ha4.2; omega⟩))) ?_
        rintro _ H4 N4 ⟨rfl, hN4, C4⟩
        simp
        refine Sp.cW (crash_first (by omega) hB' (by omega) C4) ?_
        rintro _ H5 N5 ⟨rfl, e5, hN5⟩
        have e5' := e5.symm
        subst e5'
        have hf1 := hB'.first (by omega)
        simp only at hf1
        have k1 : ¬ (s.dropped : Int) + 1 < ((s.l.append s.d a.b).2.2.2.first : Nat) := by omega
        simp [w3, w4, k1]
        exact hnext _ _ _ _ (C4.low (fun _ _ => rfl) (by omega))
      · simp [g1, g2, lenA_sl, s1, s2, w1, w2, bo, ee, ha1, ha2, ha3, ba_list, lk_set, fk, mb]
        refine Sp.cW (crash_told hK (by omega) hB' (by omega) (done _ _ _ (by omega) (fun j hj => by have := L3.lt j hj; have : j ≠ ka := (fun e => absurd (e ▸ hj) (hAP ka ha4).1); rw [lk_set, if_neg (by omega), lk_set, if_neg (by omega)]) (.inr ⟨ka, ga + 1, _, by simp, by rw [lk_set, if_pos rfl], by rw [hsh]; simp [strRows, List.take_of_length_le], by rw [hsh]; simp, (hAP ka ha4).1, by have := ha4.2; omega⟩))) ?_
        rintro _ H4 N4 ⟨rfl, hN4, C4⟩
        simp
        refine Sp.cW (crash_first (by omega) hB' (by omega) C4) ?_
        rintro _ H5 N5 ⟨rfl, e5, hN5⟩
        have e5' := e5.symm
        subst e5'
        have hf1 := hB'.first (by omega)
        simp only at hf1
        have k1 : ¬ (s.dropped : Int) + 1 < ((s.l.append s.d a.b).2.2.2.first : Nat) := by omega
        simp [w3, w4, k1]
        exact hnext _ _ _ _ (C4.low (fun _ _ => rfl) (by omega))
  · have hst : s.step a = { s with d := (s.l.append s.d a.b).2.2.1, l := (s.l.append s.d a.b).2.2.2 } := by unfold CSt.step; rw [if_pos hkd, if_pos g1]
    rw [hst] at hB' hnext
    have g1' : ((s.l.append s.d a.b).1 == 0) = false := by simpa using g1
    have g1'' : ((s.l.append s.d a.b).1 != 0) = true := by simpa using g1
    have w4 : IntKind.i64.wrap ((i : Int) + 1) = ((i + 1 : Nat) : Int) := by rw [wrap_i64 (by omega) (by omega)]; omega
    have hA3 : AllV H3 av s.all fun j => ¬ grw U (N + 4 + 6 + 2 + 2 + 10 + 8) N3 j ∧ j < N3 := hA.keep hfr hAP
    have C3 : CrashI kd { s with d := (s.l.append s.d a.b).2.2.1, l := (s.l.append s.d a.b).2.2.2 } kl av H3 N3 := ⟨_, sv3, ks3, rvs3, L3, hA3⟩
    simp [g1, g1'', w4]
    exact hnext _ _ _ _ (C3.low (fun _ _ => rfl) (by omega))

end Ab
end Go.Proofs.YtmbbnoipoifhhaaGreatDoor
