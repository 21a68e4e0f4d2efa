/-
  DERIVED. LogTorn: the law's function walked.
  Conditions: enough rounds, enough depth; bounded lengths.
-/
import Derived.Test.YtmbbnoipoifhhaaGreatDoorVI
import Derived.Test.YtmbbnoipoifhhaaGreatDoorVE
set_option linter.all false
set_option maxHeartbeats 4000000
namespace Go.Proofs.YtmbbnoipoifhhaaGreatDoor
namespace Ab
set_option maxRecDepth 100000
set_option maxHeartbeats 8000000
set_option linter.all false
attribute [local simp] wp_regW opsW_nil opsW_cons opsK_eq regK_no regK_draw oW_n oW_h oW_r oW_pn convA appendA appRow newsA rowsSz rowsOf isIntD makeSliceA elemOf rowsBuilt eqA eq1
attribute [-simp] fCall
variable {kl kd : Nat} {d : Dk} {U S T : Nat → Prop} {sv : AV} {ks : List Nat} {rvs : Nat → AV} {H H' : Hp} {N N' K n m : Nat} {l : Lg} {name : Bs}

/-- Records that are handed in. -/
def BsRows (rows : List (List AV)) (bs : List Bs) : Prop := rows.length = bs.length ∧ ∀ (i : Nat) (r : List AV) (b : Bs), rows[i]? = some r → bs[i]? = some b → ∃ z, r = [.vs z 1 (byteRows b)] ∧ (z = true → b = [])
/-- Sizes, one behind the other. -/
def endsOf (recs : List Bs) : List Int := (List.range recs.length).map fun i => ((24 + recsN (recs.take (i + 1)) : Nat) : Int)
theorem endsOf_snoc (recs : List Bs) (b : Bs) : endsOf (recs ++ [b]) = endsOf recs ++ [((24 + recsN (recs ++ [b]) : Nat) : Int)] := by
  unfold endsOf
  rw [List.length_append, List.length_singleton, List.range_succ, List.map_append, List.map_singleton]
  congr 1
  · refine List.map_congr_left fun i hi => ?_
    rw [List.take_append_of_le_length (by have := List.mem_range.1 hi; omega)]
  · rw [List.take_of_length_le (by simp)]
@[simp] theorem endsOf_len (recs : List Bs) : (endsOf recs).length = recs.length := by simp [endsOf]
def EndsV (H : Hp) (ev : AV) (es : List Int) (P : Nat → Prop) : Prop := (es = [] ∧ ev = .vs true 0 []) ∨ ∃ (ka ga : Nat), es ≠ [] ∧ ev = .rs ka ga 0 es.length 1 ∧ lk H ka = some (ga, .arr 1 (intRows es)) ∧ P ka
def tornSt (z : Bool) (rows : List (List AV)) (cut : Nat) (flip : UInt8) (kd kl : Nat) (i : Nat × AV × AV × Hp × Nat) : St :=
  { env := [(0, .vs z 1 rows), (1, .i .u16 (cut : Nat)), (2, .i .u8 (flip.toNat : Nat)), (7, .ptr kd 0 0), (9, .ptr kl 0 0), (11, i.2.1), (12, i.2.2.1), (13, .i .i64 (i.1 : Nat))], loc := [], hp := i.2.2.2.1, nx := i.2.2.2.2 }

theorem two {A B X G : Prop} (h : A ∨ B) (h1 : A → X → G) (h2 : B → X → G) (x : X) : G := h.elim (fun a => h1 a x) fun b => h2 b x
theorem two3 {A B G : Prop} {F X : AV → Hp → Nat → Prop} (h : A ∨ B) (h1 : A → (∀ b H N, F b H N → X b H N) → G) (h2 : B → (∀ b H N, F b H N → X b H N) → G) (x : ∀ b H N, F b H N → X b H N) : G := h.elim (fun a => h1 a x) fun b => h2 b x
theorem torn_all (rs : List Bs) (size sz a b : Nat) : (⟨logN, size, if rs = [] then [] else [⟨1, rs, sz⟩], a, b⟩ : Lg).all.length = rs.length := by
  by_cases h0 : rs = []
  · subst h0; simp [Lg.all]
  · simp [Lg.all, h0, number_len]
theorem ends_get {recs : List Bs} {k : Nat} (h : k < recs.length) : (intRows (endsOf recs))[k]? = some [.i .i64 ((24 + recsN (recs.take (k + 1)) : Nat) : Int)] := by
  unfold intRows endsOf
  simp [h]

theorem c_LogTorn (hK : big K) (hn : 12 ≤ n) (z : Bool) (rows : List (List AV)) (bs : List Bs) (cut : Nat) (flip : UInt8) (hz : z = true → rows = []) (hr : BsRows rows bs) (hcut : cut < 65536) (hbs : bs.length ≤ 2 ^ 20) (hb : ∀ b ∈ bs, b.length ≤ 2 ^ 24) :
    Sp K n 3 [.vs z 1 rows, .i .u16 (cut : Nat), .i .u8 (flip.toNat : Nat)] H N fun r _ _ => r = .b true := by
  refine sp_cps fun Q hQ => ?_
  obtain ⟨n, rfl⟩ : ∃ m, n = m + 1 := ⟨n - 1, by omega⟩
  have eL := p_wlives (K := K) (n := n) hK (by omega)
  have eN : ∀ nx, callA cfg K n 8 [.i .i64 16777216] [] nx = some (.tup [.ptr (nx + 11) 0 0, .i .i64 0], [(nx + 9, (0, .mp [])), (nx + 11, (0, .cells [.i .i64 16777216, .mp (some (nx + 9)), .vs true 0 [], .i .i64 0]))], nx + 14) :=
    fun nx => c_pNew1 (K := K) (n := n) (nx := nx) (by omega) 16777216 (by omega)
  have lgS : ({ data := #[108, 111, 103] } : ByteArray) = ba logN := rfl
  refine sp_of rfl (run_wp Tryz.func3 rfl (by simp [Tryz.f3]) ?_)
  simp
  refine pn_use (args' := []) rfl eL rfl fun rd => ?_
  simp [eN, lgS]
  refine Sp.cW (c_fresh0 (N := N) hK (by omega) 16777216 4194304 (by omega) (by omega) _ _ (by omega)) ?_
  rintro _ H2 N2 ⟨kl, U, sv, ks, rvs, rfl, hle, hU, L, hH⟩
  simp
  have L0 : ∀ N', N2 ≤ N' → LX kl _ (tornL []) (tornD []) U sv ks rvs H2 N' := fun N' h => L.low (fun _ _ => rfl) h
  refine loop_wp (ι := Nat × AV × AV × Hp × Nat) (tornSt z rows cut flip _ kl) (fun i => bs.length - i.1) (fun i => i.1 ≤ bs.length ∧ i.1 ≤ 30 ∧ (∀ b ∈ bs.take i.1, b.length ≤ maxM) ∧ ∃ U sv ks rvs, LX kl _ (tornL (bs.take i.1)) (tornD (bs.take i.1)) U sv ks rvs i.2.2.2.1 i.2.2.2.2 ∧ AllV i.2.2.2.1 i.2.1 (bs.take i.1) (fun j => ¬ U j ∧ j < i.2.2.2.2) ∧ EndsV i.2.2.2.1 i.2.2.1 (endsOf (bs.take i.1)) (fun j => ¬ U j ∧ j < i.2.2.2.2) ∧ (bs.take i.1 = [] → i.2.1 = .vs true 0 []))
    (0, .vs true 0 [], .vs true 0 [], H2, N2 + 17) rfl ⟨Nat.zero_le _, Nat.zero_le _, fun b h => by simp at h, U, sv, ks, rvs, L0 _ (by show N2 ≤ N2 + 17; omega), .inl ⟨by simp, rfl⟩, .inl ⟨by simp [endsOf], rfl⟩, fun _ => rfl⟩ (by simp; unfold big at hK; omega) ?_
  rintro Next ⟨i, av, ev, H3, N3⟩ ⟨hi, hi30, hsm, U3, sv3, ks3, rvs3, L3, hA, hE, hA0⟩ hnext
  simp only at hi hi30 hsm L3 hA hE hA0 hnext
  have hlen := hr.1
  by_cases hlt : i < bs.length ∧ i < 30
  · obtain ⟨hlt, hlt2⟩ := hlt
    obtain ⟨b, hbi⟩ : ∃ b, bs[i]? = some b := ⟨_, List.getElem?_eq_getElem hlt⟩
    obtain ⟨r, hrow⟩ : ∃ r, rows[i]? = some r := ⟨_, List.getElem?_eq_getElem (by rw [hlen]; exact hlt)⟩
    obtain ⟨zb, rfl, hzb⟩ := hr.2 i r b hrow hbi
    have hbl := hb b (List.mem_of_getElem? hbi)
    have zf : z = false := by
      cases z
      · rfl
      · rw [hz rfl] at hrow
        simp at hrow
    subst zf
    have c1 : (i : Int) < bs.length := by omega
    have c2 : (i : Int) < 30 := by omega
    have w4 : IntKind.i64.wrap ((i : Int) + 1) = ((i + 1 : Nat) : Int) := by rw [wrap_i64 (by omega) (by omega)]; omega
    have hrl : (bs.take i).length = i := by rw [List.length_take]; omega
    have hB3 : LB (tornL (bs.take i)) := tornL_lb (by omega) hsm
    have hI3 : (tornD (bs.take i)).Inv 2 := tornD_inv (by omega) hsm
    have lgF : ({ data := #[108, 111, 103, 46, 48, 48, 48, 48, 48, 48, 48, 48, 48, 48, 48, 48, 48, 48, 48, 49] } : ByteArray) = ba tornF := by decide +kernel
    have htk : bs.take (i + 1) = bs.take i ++ [b] := by rw [List.take_add_one, hbi]; rfl
    have hA4 := hA
    simp [tornSt, lenA_sl, hlen, c1, c2, hrow]
    refine f_use (args' := [.vs zb 1 (byteRows b)]) (by simp [frz_bytes]) (c_wown (by omega) zb b hzb (by omega)) (by simp) ?_
    simp
    refine Sp.cW (c_lappend (b := b) (U := U3) hK (by omega) hI3 (by omega) hB3 (by simp [tornL]) (L3.low (fun j hj => by rw [lk_set, if_neg (by omega)]) (by omega)) (by rw [lk_set, if_pos rfl]) (fun e => absurd (L3.lt _ e) (by omega)) (by omega) (by omega)) ?_
    rintro _ H4 N4 ⟨rfl, F4, sv4, ks4, rvs4, L4⟩
    have hF4 := F4.le
    by_cases hbm : b.length ≤ maxM
    · rw [torn_append (by omega) hsm hbm] at L4 ⊢
      have hsm2 : ∀ x ∈ bs.take i ++ [b], x.length ≤ maxM := fun x hx => (List.mem_append.1 hx).elim (hsm x) fun h => by rw [List.mem_singleton.1 h]; exact hbm
      have hl2 : (bs.take i ++ [b]).length ≤ 31 := by simp; omega
      have hne : bs.take i ++ [b] ≠ [] := by simp
      simp [lgF]
      refine Sp.cW (lx_size hK (by omega) (tornD_inv hl2 hsm2) (L4.low (N' := N4 + 2 + 7) (fun _ _ => rfl) (by omega)) tornF) ?_
      rintro _ H5 N5 ⟨rfl, e5, hN5⟩
      have e5' := e5.symm
      subst e5'
      rw [torn_look hne]
      simp only
      generalize hsz : (strB (1, bs.take i ++ [b])).length = sz
      have szl : sz ≤ 2 ^ 24 := by rw [← hsz]; exact torn_len24 hl2 hsm2
      have bo := bytesOf_rows b
      have ee : ∀ x : Bs, ({ data := x.toArray } : ByteArray) = ba x := fun _ => rfl
      have z0 : (zb = true ∧ b = []) ∨ zb = false := by cases zb <;> simp_all
      obtain ⟨s1, s2⟩ := hA.sl
      have szE : ((24 + recsN (bs.take i ++ [b]) : Nat) : Int) = (sz : Int) := by rw [← hsz, str_len]
      have hfr : ∀ j, (¬ U3 j ∧ j < N3) → lk H4 j = lk H3 j := fun j hj => (F4.out j (by have := hj.2; omega) hj.1).trans (by rw [lk_set, if_neg (by have := hj.2; omega)])
      obtain ⟨U4, hU4', L4'⟩ : ∃ U4, (∀ j, (¬ U3 j ∧ j < N3) → ¬ U4 j) ∧ LX kl _ (tornL (bs.take i ++ [b])) (tornD (bs.take i ++ [b])) U4 sv4 ks4 rvs4 H4 N4 := ⟨_, fun j hj e => e.elim hj.1 fun e => by have := hj.2; omega, L4⟩
      have fin : ∀ av' ev' H' N', N4 ≤ N' → (∀ j, U4 j → lk H' j = lk H4 j) → AllV H' av' (bs.take i ++ [b]) (fun j => ¬ U4 j ∧ j < N') → EndsV H' ev' (endsOf (bs.take i ++ [b])) (fun j => ¬ U4 j ∧ j < N') → Next (tornSt false rows cut flip _ kl (i + 1, av', ev', H', N')) := fun av' ev' H' N' h1 h2 h3 h4 =>
        hnext (i + 1, av', ev', H', N') (by simp only; omega) ⟨hlt, by simp only; omega, by simp only; rw [htk]; exact hsm2, by simp only; rw [htk]; exact ⟨U4, sv4, ks4, rvs4, L4'.frame h2 h1, h3, h4, fun e => absurd e hne⟩⟩
      have hU4 : ∀ j, U4 j → j < N4 := L4'.lt
      have e0 : endsOf (bs.take i ++ [b]) = endsOf (bs.take i) ++ [(sz : Int)] := by rw [endsOf_snoc, szE]
      rcases hA with ⟨h0, rfl⟩ | ⟨ka, ga, rws, rfl, ha1, ha2, ha3, ha4⟩
      · rcases hE with ⟨h1, rfl⟩ | ⟨kb, gb, hb0, rfl, hb1, hb2⟩
        · have i0 : i = 0 := by rw [h0] at hrl; simpa using hrl.symm
          rcases z0 with ⟨rfl, b0⟩ | rfl
          · have ebo : bytesOf [] = some [] := rfl
            have emp : ba [] = ba b := by rw [b0]
            have b1 : byteRows b = [] := by rw [b0]; rfl
            simp [s2, hrow, bo, ee, ba_list, lk_set, w4, b1, ebo, emp]
            refine ⟨by decide, by decide, ?_⟩
            refine fin _ _ _ _ (by omega) (fun j hj => by have := hU4 j hj; rw [lk_set, if_neg (by omega), lk_set, if_neg (by omega), lk_set, if_neg (by omega), lk_set, if_neg (by omega)]) ?_ ?_
            · rw [h0]
              exact .inr ⟨N5 + 2 + 7, 0, _, rfl, by rw [lk_set, if_neg (by omega), lk_set, if_neg (by omega), lk_set, if_pos rfl], rfl, Nat.le_refl _, fun e => absurd (hU4 _ e) (by omega), by omega⟩
            · rw [e0, h0]
              exact .inr ⟨N5 + 2 + 11, 0, by simp, rfl, by rw [lk_set, if_pos rfl]; rfl, fun e => absurd (hU4 _ e) (by omega), by omega⟩
          · simp [s2, hrow, bo, ee, ba_list, lk_set, w4]
            refine ⟨by decide, by decide, ?_⟩
            refine fin _ _ _ _ (by omega) (fun j hj => by have := hU4 j hj; rw [lk_set, if_neg (by omega), lk_set, if_neg (by omega), lk_set, if_neg (by omega), lk_set, if_neg (by omega)]) ?_ ?_
            · rw [h0]
              exact .inr ⟨N5 + 2 + 7, 0, _, rfl, by rw [lk_set, if_neg (by omega), lk_set, if_neg (by omega), lk_set, if_pos rfl], rfl, Nat.le_refl _, fun e => absurd (hU4 _ e) (by omega), by omega⟩
            · rw [e0, h0]
              exact .inr ⟨N5 + 2 + 11, 0, by simp, rfl, by rw [lk_set, if_pos rfl]; rfl, fun e => absurd (hU4 _ e) (by omega), by omega⟩
        · rw [h0] at hb0
          exact absurd rfl hb0
      · have hne0 : bs.take i ≠ [] := fun e => by cases hA0 e
        rcases hE with ⟨h1, rfl⟩ | ⟨kb, gb, hb0, rfl, hb1, hb2⟩
        · exact absurd (List.eq_nil_of_length_eq_zero (by rw [← endsOf_len, h1]; rfl)) hne0
        · skip
          have hkab : ka ≠ kb := fun e => by
            subst e
            rw [ha1] at hb1
            have e2 : rws = intRows (endsOf (bs.take i)) := by
              injection hb1 with h
              injection h with h1 h2
              injection h2
            rw [e2] at ha2
            obtain ⟨x, r, hx⟩ := List.exists_cons_of_ne_nil hne0
            rw [hx] at ha2
            have h5 := congrArg (fun l => l[0]?) ha2
            simp [strRows, intRows, endsOf, List.range_succ_eq_map] at h5
          have ka4 := (hfr ka ha4).trans ha1
          have kb4 := (hfr kb hb2).trans hb1
          have fka : ∀ c, ¬ ka = N5 + c := fun c => by have := ha4.2; omega
          have fkb : ∀ c, ¬ kb = N5 + c := fun c => by have := hb2.2; omega
          have hmin : min i bs.length = i := by omega
          have mb1 : ((bs.take i).length + 1) * 17 ≤ mostBytes := by rw [mostB]; omega
          have mb2 : ((bs.take i).length + 1) * 9 ≤ mostBytes := by rw [mostB]; omega
          rcases z0 with ⟨rfl, b0⟩ | rfl
          · have ebo : bytesOf [] = some [] := rfl
            have emp : ba [] = ba b := by rw [b0]
            have b1 : byteRows b = [] := by rw [b0]; rfl
            simp [s2, hrow, bo, ee, ba_list, lk_set, w4, ka4, kb4, fka, fkb, hkab, hkab.symm, ha3, mb1, mb2, Nat.add_assoc, hmin, b1, ebo, emp]
            refine ⟨⟨by rw [hrl] at ha3; exact ha3, by rw [mostB]; omega⟩, by rw [mostB]; omega, ?_⟩
            refine fin _ _ _ _ (by omega) (fun j hj => ?_) ?_ ?_
            · have hj4 := hU4 j hj
              have j1 : j ≠ ka := fun e => hU4' ka ha4 (e ▸ hj)
              have j2 : j ≠ kb := fun e => hU4' kb hb2 (e ▸ hj)
              rw [lk_set, if_neg j2, lk_set, if_neg (by omega), lk_set, if_neg j1, lk_set, if_neg (by omega)]
            · have hsh : shown rws 0 i = strRows (bs.take i) := by
                rw [hrl] at ha2 ha3
                unfold shown
                split
                · rename_i e; rw [← ha2, List.drop_zero, List.take_of_length_le (by omega)]
                · rw [List.drop_zero, ha2]
              exact .inr ⟨ka, ga + 1, _, by rw [List.length_append, hrl]; rfl, by rw [lk_set, if_neg hkab, lk_set, if_neg (by have := fka 12; omega), lk_set, if_pos rfl], by rw [hsh, List.length_append, hrl, List.take_of_length_le (by simp; omega)]; simp [strRows], by rw [hsh]; simp, hU4' ka ha4, by have := ha4.2; omega⟩
            · have hsh2 : shown (intRows (endsOf (bs.take i))) 0 i = intRows (endsOf (bs.take i)) := by
                unfold shown
                rw [if_pos (by simp; omega), List.drop_zero]
              exact .inr ⟨kb, gb + 1, by rw [e0]; simp, by rw [e0, List.length_append, endsOf_len, hrl]; rfl, by rw [lk_set, if_pos rfl, hsh2, e0]; simp [intRows], hU4' kb hb2, by have := hb2.2; omega⟩
          · simp [s2, hrow, bo, ee, ba_list, lk_set, w4, ka4, kb4, fka, fkb, hkab, hkab.symm, ha3, mb1, mb2, Nat.add_assoc, hmin]
            refine ⟨⟨by rw [hrl] at ha3; exact ha3, by rw [mostB]; omega⟩, by rw [mostB]; omega, ?_⟩
            refine fin _ _ _ _ (by omega) (fun j hj => ?_) ?_ ?_
            · have hj4 := hU4 j hj
              have j1 : j ≠ ka := fun e => hU4' ka ha4 (e ▸ hj)
              have j2 : j ≠ kb := fun e => hU4' kb hb2 (e ▸ hj)
              rw [lk_set, if_neg j2, lk_set, if_neg (by omega), lk_set, if_neg j1, lk_set, if_neg (by omega)]
            · have hsh : shown rws 0 i = strRows (bs.take i) := by
                rw [hrl] at ha2 ha3
                unfold shown
                split
                · rename_i e; rw [← ha2, List.drop_zero, List.take_of_length_le (by omega)]
                · rw [List.drop_zero, ha2]
              exact .inr ⟨ka, ga + 1, _, by rw [List.length_append, hrl]; rfl, by rw [lk_set, if_neg hkab, lk_set, if_neg (by have := fka 12; omega), lk_set, if_pos rfl], by rw [hsh, List.length_append, hrl, List.take_of_length_le (by simp; omega)]; simp [strRows], by rw [hsh]; simp, hU4' ka ha4, by have := ha4.2; omega⟩
            · have hsh2 : shown (intRows (endsOf (bs.take i))) 0 i = intRows (endsOf (bs.take i)) := by
                unfold shown
                rw [if_pos (by simp; omega), List.drop_zero]
              exact .inr ⟨kb, gb + 1, by rw [e0]; simp, by rw [e0, List.length_append, endsOf_len, hrl]; rfl, by rw [lk_set, if_pos rfl, hsh2, e0]; simp [intRows], hU4' kb hb2, by have := hb2.2; omega⟩
    · rw [torn_long (by omega)]
      have c3 : (65536 : Int) < b.length := by unfold maxM at hbm; omega
      simp [lenA_sl, hlen, hrow, c3]
      exact hQ _ _ _ rfl
  · have hex : ∀ {P : Prop}, (((i : Int) < bs.length → ¬ (i : Int) < 30) → P) → P := fun h => h fun a b => hlt ⟨by omega, by omega⟩
    clear hnext
    have hrl : (bs.take i).length = i := by rw [List.length_take]; omega
    obtain ⟨s1, s2⟩ := hA.sl
    rw [hrl] at s1
    by_cases i0 : i = 0
    · have hb0 : bs.length = 0 := by omega
      simp [tornSt, lenA_sl, hlen, s1, s2, i0, hb0]
      exact hQ _ _ _ rfl
    have hc : ((i : Int) < bs.length ∧ ¬ (i : Int) < 30) ∨ ¬ (i : Int) < bs.length := by omega
    have lgF : ({ data := #[108, 111, 103, 46, 48, 48, 48, 48, 48, 48, 48, 48, 48, 48, 48, 48, 48, 48, 48, 49] } : ByteArray) = ba tornF := by decide +kernel
    have hI3 : (tornD (bs.take i)).Inv 2 := tornD_inv (by omega) hsm
    have hne : bs.take i ≠ [] := fun e => i0 (by rw [← hrl, e]; rfl)
    apply two hc
    · rintro ⟨c1, c2⟩ h
      simp [tornSt, lenA_sl, hlen, c1, c2, s1, s2, i0, lgF]
      exact h
    · intro c1 h
      simp [tornSt, lenA_sl, hlen, c1, s1, s2, i0, lgF]
      exact h
    have hi31 : i ≤ 31 := by omega
    refine Sp.cW (lx_read hK (by omega) hI3 (L3.low (fun _ _ => rfl) (by omega)) tornF) ?_
    rintro _ H5 N5 ⟨L5, hN5, hf5, v, rfl, hSX⟩
    have hlk := torn_look hne
    have hrd : readD (tornD (bs.take i)) tornF = strB (1, bs.take i) := by unfold readD; rw [hlk]; rfl
    rw [hrd] at hSX
    rw [hlk]
    clear L5 hI3 hrd hlk hex hc
    have hL30 : (bs.take i).length ≤ 30 := by omega
    have hA' : AllV H5 av (bs.take i) (fun j => j < N5) := hA.keep (fun j hj => hf5 j (by have := hj.2; omega)) (fun j hj => by have := hj.2; omega)
    obtain ⟨ke, ge, rfl, he1, he2⟩ : ∃ ke ge, ev = .rs ke ge 0 (bs.take i).length 1 ∧ lk H5 ke = some (ge, .arr 1 (intRows (endsOf (bs.take i)))) ∧ ke < N5 := by
      rcases hE with ⟨h1, _⟩ | ⟨kb, gb, hb0, h2, hb1, hb2⟩
      · exact absurd (List.eq_nil_of_length_eq_zero (by rw [← endsOf_len, h1]; rfl)) hne
      · exact ⟨kb, gb, by rw [h2, endsOf_len], (hf5 kb (by have := hb2.2; omega)).trans hb1, by have := hb2.2; omega⟩
    clear hE hA L3
    have hlen24 := torn_len24 (by omega : (bs.take i).length ≤ 31) hsm
    have hstr := str_len (1, bs.take i)
    simp only at hstr
    generalize hrecs : bs.take i = recs at *
    obtain ⟨str, hst⟩ : ∃ s, s = strB (1, recs) := ⟨_, rfl⟩
    rw [← hst] at hSX hlen24 hstr
    obtain ⟨kb, gb, rfl, hb1, hb2⟩ : ∃ kb gb, v = .rs kb gb 0 str.length 1 ∧ lk H5 kb = some (gb, .arr 1 (byteRows str)) ∧ kb < N5 := by
      rcases hSX.bytes with ⟨h1, _⟩ | ⟨k, g, h1, h2, h3⟩
      · rw [h1] at hstr; simp only [List.length_nil] at hstr; omega
      · exact ⟨k, g, h1, h2, h3.2⟩
    have hr0 : 1 ≤ recs.length := by cases recs with | nil => exact absurd rfl hne | cons x r => simp
    have hlast : (intRows (endsOf recs))[recs.length - 1]? = some [.i .i64 (str.length : Nat)] := by
      rw [ends_get (by omega), Nat.sub_add_cancel hr0, List.take_of_length_le (Nat.le_refl _), hstr]
    have wl : IntKind.i64.wrap ((recs.length : Int) - 1) = ((recs.length - 1 : Nat) : Int) := by rw [wrap_i64 (by omega) (by omega)]; omega
    obtain ⟨pos, hpos⟩ : ∃ p, p = cut % str.length := ⟨_, rfl⟩
    have hp : pos < str.length := by rw [hpos]; exact Nat.mod_lt _ (by omega)
    have wm : (cut : Int).tmod (str.length : Nat) = (pos : Int) := by
      rw [Int.tmod_eq_emod_of_nonneg (by omega), hpos]
      omega
    have wc : IntKind.i64.wrap (cut : Int) = (cut : Int) := wrap_i64 (by omega) (by omega)
    have hs0 : str.length ≠ 0 := by omega
    have c1a : recs.length - 1 < recs.length := by omega
    have hlast2 : ∀ h, (intRows (endsOf recs))[recs.length - 1]'h = [.i .i64 (str.length : Nat)] := fun h => by rw [List.getElem?_eq_getElem h] at hlast; exact Option.some.inj hlast
    simp [lenA_sl, he1, hlast2, wl, hb1, wc, hs0, c1a]
    refine f_use (frz_all (b := str) (by simp [hb1]) rfl) (c_wown (by omega) false str (by simp) (by omega)) (by simp) ?_
    have hsn : str ≠ [] := fun e => hs0 (by rw [e]; rfl)
    simp [hsn, wm]
    clear wm wc hlast2 hlast wl hSX
    generalize hn0 : visR recs (pos - 24) = n0
    have hn0l : n0 ≤ recs.length := by rw [← hn0]; exact vis_le _ _
    generalize hnb : N5 + 13 + 6 + 3 + 4 = nb
    generalize hN6 : N5 + 13 + 6 + 3 + 8 + 1 + 1 = N6
    generalize hH6 : up H5 nb (1, AO.arr 1 (byteRows str)) = H6
    have hlb6 : lk H6 nb = some (1, .arr 1 (byteRows str)) := by rw [← hH6, lk_set, if_pos rfl]
    have hf6 : ∀ j, j < N5 → lk H6 j = lk H5 j := fun j hj => by rw [← hH6, lk_set, if_neg (by omega)]
    have hA6 : AllV H6 av recs (fun j => j < N5) := hA'.keep hf6 fun _ h => h
    have he6 : lk H6 ke = some (ge, .arr 1 (intRows (endsOf recs))) := (hf6 ke he2).trans he1
    clear hA' he1 hb1 hH6 hf5
    refine loop_wp (ι := Nat × Nat × Nat) (fun i => { env := [(2, .i .u8 (flip.toNat : Nat)), (11, av), (12, .rs ke ge 0 recs.length 1), (20, .i .i64 (pos : Nat)), (21, .rs nb 1 0 str.length 1), (22, .i .i64 (i.2.2 : Nat)), (23, .i .i64 (i.1 : Nat))], loc := [], hp := H6, nx := i.2.1 }) (fun i => recs.length - i.1) (fun i => i.1 ≤ n0 ∧ N6 ≤ i.2.1 ∧ i.2.2 = 24 + recsN (recs.take i.1))
      (0, N6, 24) rfl ⟨Nat.zero_le _, Nat.le_refl _, rfl⟩ (by simp; unfold big at hK; omega) ?_
    rintro Next ⟨k, N7, e7⟩ ⟨hk, hN7, he7⟩ hnext
    simp only at hk hN7 he7 hnext
    by_cases hkn : k < n0
    · have d1 : (k : Int) < recs.length := by omega
      have d1' : k < recs.length := by omega
      obtain ⟨e8, he8⟩ : ∃ e, e = 24 + recsN (recs.take (k + 1)) := ⟨_, rfl⟩
      have d2 : (e8 : Int) ≤ pos := by have := (ends_iff (pos := pos) d1').2 (by rw [hn0]; exact hkn); omega
      have d3 : (intRows (endsOf recs))[k]? = some [.i .i64 (e8 : Nat)] := by rw [ends_get d1', he8]
      have d4 : ∀ h, (intRows (endsOf recs))[k]'h = [.i .i64 (e8 : Nat)] := fun h => by rw [List.getElem?_eq_getElem h] at d3; exact Option.some.inj d3
      have d5 : IntKind.i64.wrap ((k : Int) + 1) = ((k + 1 : Nat) : Int) := by rw [wrap_i64 (by omega) (by omega)]; omega
      simp [lenA_sl, he6, d1, d1', d2, d4, d5]
      exact hnext (k + 1, _, e8) (by simp only; omega) ⟨by simp only; omega, by simp only; omega, by simp only; exact he8⟩
    have hk0 : k = n0 := by omega
    subst hk0
    clear hnext hk hkn
    have hd : ¬ (k : Int) < recs.length ∨ ((k : Int) < recs.length ∧ ∃ e8 : Nat, ¬ (e8 : Int) ≤ pos ∧ ∀ h, (intRows (endsOf recs))[k]'h = [.i .i64 (e8 : Nat)]) := by
      by_cases d1' : k < recs.length
      · refine .inr ⟨by omega, 24 + recsN (recs.take (k + 1)), fun h => ?_, fun h => ?_⟩
        · have := (ends_iff (pos := pos) d1').1 (by omega)
          rw [hn0] at this
          omega
        · have d3 := ends_get d1'
          rw [List.getElem?_eq_getElem h] at d3
          exact Option.some.inj d3
      · exact .inl (by omega)
    apply two hd
    · intro d1 h
      simp [lenA_sl, he6, d1]
      exact h
    · rintro ⟨d1, e8, d2, d4⟩ h
      have d1' : k < recs.length := by omega
      simp [lenA_sl, he6, d1, d1', d2, d4]
      exact h
    have hpl : pos ≤ str.length := by omega
    have f3 : flip ≠ 0 → ((flip.toNat : Int) != 0) = true ∧ ((flip.toNat : Int) == 0) = false := fun hf => by
      have h0 : (flip.toNat : Int) ≠ 0 := fun h => hf (UInt8.toNat_inj.1 (by simpa using h))
      exact ⟨bne_iff_ne.2 h0, beq_eq_false_iff_ne.2 h0⟩
    by_cases c5 : flip ≠ 0 ∧ e7 ≤ pos ∧ pos < e7 + 4
    · have f1 := (f3 c5.1).1
      have c6 : (e7 : Int) ≤ pos := by omega
      have c7 : (pos : Int) < e7 + 4 := by omega
      have c8 : IntKind.i64.wrap ((e7 : Int) + 4) = (e7 : Int) + 4 := wrap_i64 (by omega) (by omega)
      simp [f1, c6, c7, c8]
      exact hQ _ _ _ rfl
    have hor : flip = 0 ∨ flip ≠ 0 := Classical.em _
    apply two3 (F := fun bad H7 N8 => N7 ≤ N8 ∧ ∃ g full, bad = .rs nb g 0 (tornB str pos flip).length 1 ∧ lk H7 nb = some (g, .arr 1 (byteRows full)) ∧ (tornB str pos flip).length ≤ full.length ∧ tornB str pos flip = full.take (tornB str pos flip).length ∧ full.length ≤ 2 ^ 24 ∧ ∀ j, j ≠ nb → lk H7 j = lk H6 j) hor
    · intro hf h
      have f1 : ((flip.toNat : Int) != 0) = false := by rw [hf]; rfl
      have f2 : ((flip.toNat : Int) == 0) = true := by rw [hf]; rfl
      have htb : tornB str pos flip = str.take pos := by unfold tornB; rw [if_pos hf]
      have htl : (str.take pos).length = pos := by rw [List.length_take]; omega
      obtain ⟨H7, hH7⟩ : ∃ H, H = H6 := ⟨_, rfl⟩
      rw [← hH7] at hlb6 ⊢
      simp [f1, f2, hlb6, hpl]
      generalize hN8 : N7 + 12 + 13 + 2 + 4 = N8
      generalize hbad : AV.rs nb 1 0 pos 1 = bad
      refine h bad H7 N8 ⟨by omega, 1, str, by rw [htb, htl]; exact hbad.symm, hlb6, by rw [htb, htl]; omega, by rw [htb, htl], hlen24, fun j _ => by rw [hH7]⟩
    · intro hf h
      obtain ⟨f1, f2⟩ := f3 hf
      have hc : ¬ (e7 : Int) ≤ pos ∨ ((e7 : Int) ≤ pos ∧ ¬ (pos : Int) < e7 + 4) := by
        by_cases c6 : e7 ≤ pos
        · exact .inr ⟨by omega, fun c7 => c5 ⟨hf, c6, by omega⟩⟩
        · exact .inl (by omega)
      have htb : tornB str pos flip = str.set pos (str[pos]?.getD 0 ^^^ flip) := by unfold tornB; rw [if_neg hf]
      obtain ⟨y, hy⟩ : ∃ y, y = str[pos]?.getD 0 := ⟨_, rfl⟩
      have hyb : (byteRows str)[pos]? = some [.i .u8 (y.toNat : Nat)] := by
        rw [hy, byteRows_get hp, List.getElem?_eq_getElem hp]
        rfl
      have hyb2 : ∀ h, (byteRows str)[pos]'h = [.i .u8 (y.toNat : Nat)] := fun h => by rw [List.getElem?_eq_getElem h] at hyb; exact Option.some.inj hyb
      obtain ⟨x, hx⟩ : ∃ x, x = y ^^^ flip := ⟨_, rfl⟩
      have hwx : IntKind.u8.wrap ((y.toNat % 2 ^ IntKind.u8.bits ^^^ flip.toNat % 2 ^ IntKind.u8.bits : Nat) : Int) = (x.toNat : Int) := by rw [hx]; exact xor_u8b y flip
      rw [← hy, ← hx] at htb
      have hsl : (str.set pos x).length = str.length := List.length_set
      rcases hc with c6 | ⟨c6, c7⟩
      · simp [f1, f2, hlb6, hpl, hp, c6, hyb2, hwx, rows_set]
        generalize hN8 : N7 + 12 + 13 + 2 + 10 = N8
        generalize hbad : AV.rs nb 1 0 str.length 1 = bad
        generalize hH7 : up H6 nb (1, AO.arr 1 (byteRows (str.set pos x))) = H7
        refine h bad H7 N8 ⟨by omega, 1, str.set pos x, by rw [htb, hsl]; exact hbad.symm, by rw [← hH7, lk_set, if_pos rfl], by rw [htb]; exact Nat.le_refl _, by rw [htb, List.take_length], by omega, fun j hj => by rw [← hH7, lk_set, if_neg hj]⟩
      · have c8 : IntKind.i64.wrap ((e7 : Int) + 4) = (e7 : Int) + 4 := wrap_i64 (by omega) (by omega)
        simp [f1, f2, hlb6, hpl, hp, c6, c7, c8, hyb2, hwx, rows_set]
        generalize hN8 : N7 + 12 + 13 + 2 + 10 = N8
        generalize hbad : AV.rs nb 1 0 str.length 1 = bad
        generalize hH7 : up H6 nb (1, AO.arr 1 (byteRows (str.set pos x))) = H7
        refine h bad H7 N8 ⟨by omega, 1, str.set pos x, by rw [htb, hsl]; exact hbad.symm, by rw [← hH7, lk_set, if_pos rfl], by rw [htb]; exact Nat.le_refl _, by rw [htb, List.take_length], by omega, fun j hj => by rw [← hH7, lk_set, if_neg hj]⟩
    rintro bad H7 N8 ⟨hN8, g, full, rfl, hl7, hfl, hft, hf24, hf7⟩
    obtain ⟨tb, htb⟩ : ∃ t, t = tornB str pos flip := ⟨_, rfl⟩
    rw [← htb] at hfl hft ⊢
    simp [eN, lgF]
    generalize hB9 : N8 + 6 = B9
    have hnr := new_rep (hp := up (up H7 (B9 + 11) (0, .cells [.i .i64 (16777216 : Nat), .mp (some (B9 + 9)), .vs true 0 [], .i .i64 0])) (B9 + 9) (0, .mp [])) (nx := B9) (nx' := B9 + 14 + 13) (a := B9 + 9) (b := B9 + 11) (q := 16777216) (by omega) (by omega) (by omega) (by omega) (by omega) (by rw [lk_set, if_pos rfl]) (by rw [lk_set, if_neg (by omega), lk_set, if_pos rfl])
    have hf8 : ∀ j, j < B9 → lk (up (up H7 (B9 + 11) (0, .cells [.i .i64 16777216, .mp (some (B9 + 9)), .vs true 0 [], .i .i64 0])) (B9 + 9) (0, .mp [])) j = lk H7 j := fun j hj => by rw [lk_set, if_neg (by omega), lk_set, if_neg (by omega)]
    have hnr2 : PRep (up (up H7 (B9 + 11) (0, .cells [.i .i64 16777216, .mp (some (B9 + 9)), .vs true 0 [], .i .i64 0])) (B9 + 9) (0, .mp [])) (B9 + 14 + 13) (B9 + 11) (newDk tornQ) (fun j => B9 ≤ j ∧ j < B9 + 14 + 13) := hnr
    clear hnr
    generalize up (up H7 (B9 + 11) (0, .cells [.i .i64 16777216, .mp (some (B9 + 9)), .vs true 0 [], .i .i64 0])) (B9 + 9) (0, .mp []) = H8 at *
    have hnbB : nb < B9 := by omega
    refine Sp.cW (c_pCreate hK (by omega) (newDk_inv tornQ (by decide)) (by omega) hnr2 tornF) ?_
    rintro _ H9 N9 ⟨rfl, P9, F9⟩
    rw [torn2_create] at P9 ⊢
    have hN9 := F9.le
    have hf9 : ∀ j, j < B9 → lk H9 j = lk H7 j := fun j hj => (F9.out j (by omega) (fun e => by omega)).trans (hf8 j hj)
    have hnb9 : lk H9 nb = some (g, .arr 1 (byteRows full)) := (hf9 nb hnbB).trans hl7
    simp [lgF]
    refine Sp.cW (c_pAppendT hK (by omega) P9 tb full nb g hnb9 hfl hft hf24) ?_
    rintro _ H10 N10 ⟨rfl, P10, F10⟩
    have hN10 := F10.le
    have hf10 : ∀ j, j < B9 → lk H10 j = lk H7 j := fun j hj => (F10.out j (by omega) (fun e => e.elim (fun e => by omega) fun e => by omega)).trans (hf9 j hj)
    have hge : ∀ j, grw (grw (fun j => B9 ≤ j ∧ j < B9 + 14 + 13) (B9 + 14 + 13) N9) N9 N10 j → B9 ≤ j := fun j hj => by
      rcases hj with (hj | hj) | hj <;> omega
    generalize grw (grw (fun j => B9 ≤ j ∧ j < B9 + 14 + 13) (B9 + 14 + 13) N9) N9 N10 = S10 at *
    simp [lgS]
    obtain ⟨d', sz, ho, hsz⟩ := torn_open (recs := recs) hsm hL30 (pos := pos) (f := flip) (by rw [← hst]; exact hp) (fun hf h1 => by
      rw [hn0, ← he7] at h1 ⊢
      exact Nat.le_of_not_lt fun h2 => c5 ⟨hf, h1, h2⟩)
    rw [hn0, ← hst, ← htb] at ho
    have hg := c_gopen (K := K) (n := n) (m := 2) (name := logN) hK (by omega) (torn2_inv (b := tb) (by omega)) (by omega) (P10.frame (fun _ _ => rfl) (by omega : N10 ≤ N10 + 7)) 4194304
    rw [ho] at hg
    refine hg.cW ?_
    rintro _ H11 N11 ⟨F11, kl2, sv2, ks2, rvs2, rfl, L11⟩
    have hN11 := F11.le
    have hf11 : ∀ j, j < B9 → lk H11 j = lk H7 j := fun j hj => (F11.out j (by omega) (fun e => by have := hge j e; omega)).trans (hf10 j hj)
    have hkl : (recs.take k).length = k := by rw [List.length_take]; omega
    have hTale := torn_tale (recs.take k) 4194304 sz
    have hLB := torn_lb (rs := recs.take k) (size := 4194304) (sz := sz) (by omega) (fun b hb => hsm b (List.mem_of_mem_take hb)) hsz
    have hTold := told_take (recs := recs) hTale (by omega)
    have hAll := torn_all (recs.take k) 4194304 sz (recs.take k).length (recs.take k).length
    have hLast : (⟨logN, 4194304, if recs.take k = [] then [] else [⟨1, recs.take k, sz⟩], (recs.take k).length, (recs.take k).length⟩ : Lg).last = k := hkl
    generalize (⟨logN, 4194304, if recs.take k = [] then [] else [⟨1, recs.take k, sz⟩], (recs.take k).length, (recs.take k).length⟩ : Lg) = l2 at *
    have hA11 : AllV H11 av recs (fun j => j < N5) := hA6.keep (fun j hj => (hf11 j (by omega)).trans (hf7 j (by omega))) fun _ h => h
    have he11 : lk H11 ke = some (ge, .arr 1 (intRows (endsOf recs))) := (hf11 ke (by omega)).trans ((hf7 ke (by omega)).trans he6)
    simp
    refine loop_wp (ι := Nat × Nat) (fun i => { env := [(11, av), (12, .rs ke ge 0 recs.length 1), (20, .i .i64 (pos : Nat)), (26, .ptr kl2 0 0), (28, .i .i64 (i.1 : Nat))], loc := [], hp := H11, nx := i.2 }) (fun i => recs.length - i.1) (fun i => i.1 ≤ k ∧ N11 ≤ i.2)
      (0, _) rfl ⟨Nat.zero_le _, by omega⟩ (by simp; unfold big at hK; omega) ?_
    rintro Next ⟨a, N12⟩ ⟨ha, hN12⟩ hnext
    simp only at ha hN12 hnext
    by_cases hkn : a < k
    · have d1 : (a : Int) < recs.length := by omega
      have d1' : a < recs.length := by omega
      obtain ⟨e8, he8⟩ : ∃ e, e = 24 + recsN (recs.take (a + 1)) := ⟨_, rfl⟩
      have d2 : (e8 : Int) ≤ pos := by have := (ends_iff (pos := pos) d1').2 (by rw [hn0]; exact hkn); omega
      have d3 : (intRows (endsOf recs))[a]? = some [.i .i64 (e8 : Nat)] := by rw [ends_get d1', he8]
      have d4 : ∀ h, (intRows (endsOf recs))[a]'h = [.i .i64 (e8 : Nat)] := fun h => by rw [List.getElem?_eq_getElem h] at d3; exact Option.some.inj d3
      have d5 : IntKind.i64.wrap ((a : Int) + 1) = ((a + 1 : Nat) : Int) := by rw [wrap_i64 (by omega) (by omega)]; omega
      simp [lenA_sl, he11, d1, d1', d2, d4, d5]
      exact hnext (a + 1, _) (by simp only; omega) ⟨by simp only; omega, by simp only; omega⟩
    have hk0 : a = k := by omega
    subst hk0
    clear hnext hkn ha
    have hd : ¬ (a : Int) < recs.length ∨ ((a : Int) < recs.length ∧ ∃ e8 : Nat, ¬ (e8 : Int) ≤ pos ∧ ∀ h, (intRows (endsOf recs))[a]'h = [.i .i64 (e8 : Nat)]) := by
      by_cases d1' : a < recs.length
      · refine .inr ⟨by omega, 24 + recsN (recs.take (a + 1)), fun h => ?_, fun h => ?_⟩
        · have := (ends_iff (pos := pos) d1').1 (by omega)
          rw [hn0] at this
          omega
        · have d3 := ends_get d1'
          rw [List.getElem?_eq_getElem h] at d3
          exact Option.some.inj d3
      · exact .inl (by omega)
    apply two hd
    · intro d1 h
      simp [lenA_sl, he11, d1]
      exact h
    · rintro ⟨d1, e8, d2, d4⟩ h
      have d1' : a < recs.length := by omega
      simp [lenA_sl, he11, d1, d1', d2, d4]
      exact h
    have hwu : IntKind.u64.wrap (a : Int) = (a : Int) := wrap_u64' (by omega)
    refine ⟨s2, ?_⟩
    refine (c_told (K := K) (n := n) hK (by omega) hLB (by rw [hAll]; omega) (L11.low (N' := N12 + 12 + 11) (fun _ _ => rfl) (by omega)) hA11 (fun j hj => by omega) (by omega) hTold).cW ?_
    rintro _ H12 N13 ⟨rfl, hN13, hf12⟩
    simp
    refine (c_Last (K := K) (n := n) (by omega) (L11.low (H' := H12) (N' := N13) (fun j hj => hf12 j (by omega)) (by omega))).cW ?_
    rintro _ H13 N14 ⟨rfl, rfl, hN14⟩
    simp [hLast, hwu]
    exact hQ _ _ _ rfl

end Ab
end Go.Proofs.YtmbbnoipoifhhaaGreatDoor
