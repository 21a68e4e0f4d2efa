/-
  DERIVED. A log opened.
  Conditions: enough rounds, enough depth; a disk of bounded size.
-/
import Derived.Test.YtmbbnoipoifhhaaGreatDoorV9
set_option linter.all false
set_option maxHeartbeats 4000000
namespace Go.Proofs.YtmbbnoipoifhhaaGreatDoor
namespace Ab
set_option maxRecDepth 100000
set_option maxHeartbeats 8000000
set_option linter.all false
attribute [local simp] wp_regW opsW_nil opsW_cons opsK_eq regK_no regK_draw oW_n oW_h oW_r oW_pn convA appendA appRow newsA rowsSz rowsOf isIntD makeSliceA elemOf rowsBuilt eqA eq1
attribute [-simp] fCall
variable {kl kd : Nat} {d : Dk} {U S : Nat → Prop} {sv : AV} {ks : List Nat} {rvs : Nat → AV} {H H' : Hp} {N N' K n m : Nat} {l : Lg} {name : Bs}

theorem LX.new {size : Nat} (h : PRep H N kd d S) (hl : ∀ j, j < N → lk H' j = lk H j) (hn : N ≤ kl) (hk : kl < N') (ht : lk H' kl = some (0, .cells [.ptr kd 0 0, .s (ba name), .i .i64 (size : Nat), .vs true 0 [], .i .u64 0, .i .u64 0])) :
    LX kl kd ⟨name, size, [], 0, 0⟩ d (fun j => S j ∨ j = kl) (.vs true 0 []) [] rvs H' N' :=
  ⟨S, fun j => j = kl, h.frame (fun j hj => hl j (h.lt j hj)) (by omega), ⟨ht, rfl, .inl ⟨rfl, 0, rfl⟩, rfl, fun i k s h => by simp at h, by simp, fun k k' a g n g' n' h => by cases h⟩, fun j hj e => by have := h.lt j hj; omega, fun j => .inl, fun j => .inr, fun j hj => hj.elim (fun e => by have := h.lt j e; omega) (fun e => by omega)⟩
theorem LX.prep (h : LX kl kd l d U sv ks rvs H N) : ∃ S', PRep H N kd d S' ∧ ∀ j, S' j → U j := by
  obtain ⟨S, T, h1, h2, h3, h4, h5, h6⟩ := h
  exact ⟨S, h1, h4⟩

theorem look_segs {name : Bs} : ∀ (nos : List Nat) (segs0 : List Sg) (h g : Bool) {segs : List Sg} {h' g' : Bool}, lookL d name nos segs0 h g = some (segs, h', g') → segs.length = segs0.length + nos.length ∧ ∀ s ∈ segs, s ∈ segs0 ∨ ∃ no ∈ nos, s = (readS no (readD d (fileN name no))).1
  | [], segs0, h, g, segs, h', g', e => by
    rw [lookL] at e
    cases e
    exact ⟨rfl, fun s hs => .inl hs⟩
  | no :: r, segs0, h, g, segs, h', g', e => by
    rw [lookL] at e
    split at e
    · cases e
    · obtain ⟨e1, e2⟩ := look_segs r _ _ _ e
      refine ⟨by rw [e1]; simp; omega, fun s hs => ?_⟩
      rcases e2 s hs with e3 | ⟨no', e3, e4⟩
      · rw [List.mem_append, List.mem_singleton] at e3
        rcases e3 with e3 | e3
        · exact .inl e3
        · exact .inr ⟨no, by simp, e3⟩
      · exact .inr ⟨no', by simp [e3], e4⟩
theorem mends_segs (d : Dk) (name : Bs) (segs : List Sg) (h g : Bool) : (mendsL d name segs h g).2.2 = segs ∨ (mendsL d name segs h g).2.2 = segs.dropLast := by
  unfold mendsL
  repeat' split
  all_goals first | exact .inl rfl | exact .inr rfl
theorem LX.toNew {kl0 N0 N1 : Nat} (h : LX kl kd l d U sv ks rvs H N) (hU : ∀ j, U j → grw S N0 N1 j) (hlt : ∀ j, S j → j < N0) (h1 : N ≤ N1) (h2 : N0 ≤ N1) : LX kl kd l d (grw S N0 N1) sv ks rvs H N1 := (h.low (fun _ _ => rfl) h1).widen hU (grw_lt hlt h2)
/-- A log opened: what is answered, and what lies there. -/
def OpenQ (kd : Nat) (S : Nat → Prop) (H : Hp) (N : Nat) (x : Int × Dk × Option Lg) (r : AV) (H' : Hp) (N' : Nat) : Prop := Frm S H N H' N' ∧ match x with
  | (e, d', none) => r = .tup [.np, .i .i64 e] ∧ ∃ S', PRep H' N' kd d' S' ∧ ∀ j, S' j → grw S N N' j
  | (e, d', some l) => ∃ kl sv ks rvs, r = .tup [.ptr kl 0 0, .i .i64 e] ∧ LX kl kd l d' (grw S N N') sv ks rvs H' N'

theorem c_gopen (hK : big K) (hn : 10 ≤ n) (hI : d.Inv m) (hm : m ≤ 2 ^ 20) (h : PRep H N kd d S) (size : Int) :
    Sp K n 9 [.ptr kd 0 0, .s (ba name), .i .i64 size] H N (OpenQ kd S H N (openL d name size)) := by
  refine sp_cps fun Q hQ => ?_
  unfold OpenQ at hQ
  obtain ⟨n, rfl⟩ : ∃ m, n = m + 1 := ⟨n - 1, by omega⟩
  refine sp_of rfl (run_wp Tryz.func9 rfl (by simp [Tryz.f9]) ?_)
  have hnm := c_named (K := K) (n := n) (by omega) name
  have bad : ∀ e N', N ≤ N' → openL d name size = (e, d, none) → Q (.tup [.np, .i .i64 e]) H N' := fun e N' h1 h2 => by
    rw [h2] at hQ
    exact hQ _ _ _ ⟨⟨h1, fun _ _ _ => rfl⟩, rfl, S, h.frame (fun _ _ => rfl) h1, fun _ => .inl⟩
  by_cases c1 : size < 64
  · have ho : openL d name size = (1, d, none) := by unfold openL; rw [if_pos (.inl c1)]
    simp [c1]
    exact bad _ _ (by omega) ho
  by_cases c2 : (4194304 : Int) < size
  · have ho : openL d name size = (1, d, none) := by unfold openL; rw [if_pos (.inr c2)]
    simp [c1, c2]
    exact bad _ _ (by omega) ho
  have c3 : ¬ (size < 64 ∨ 4194304 < size) := by omega
  cases hb : namedN name with
  | false =>
    have ho : openL d name size = (6, d, none) := by unfold openL; rw [if_neg c3, if_pos (by rw [hb]; rfl)]
    simp [c1, c2, hnm, hb]
    exact bad _ _ (by omega) ho
  | true =>
  have hname : name.length ≤ 40 := by
    simp [namedN] at hb
    omega
  simp [c1, c2, hnm, hb]
  obtain ⟨sz, hsz⟩ : ∃ sz : Nat, size = (sz : Nat) := ⟨size.toNat, by omega⟩
  subst hsz
  have L0 : LX (N + 2 + 10 + 3 + 4) kd ⟨name, sz, [], 0, 0⟩ d (fun j => S j ∨ j = N + 2 + 10 + 3 + 4) (.vs true 0 []) [] (fun _ => .undef) (up H (N + 2 + 10 + 3 + 4) (0, .cells [.ptr kd 0 0, .s (ba name), .i .i64 (sz : Nat), .vs true 0 [], .i .u64 0, .i .u64 0])) (N + 2 + 10 + 3 + 6 + 9) :=
    LX.new h (fun j hj => by rw [lk_set, if_neg (by omega)]) (by omega) (by omega) (by rw [lk_set, if_pos rfl])
  have low0 : ∀ j, j < N → lk (up H (N + 2 + 10 + 3 + 4) (0, .cells [.ptr kd 0 0, .s (ba name), .i .i64 (sz : Nat), .vs true 0 [], .i .u64 0, .i .u64 0])) j = lk H j := fun j hj => by rw [lk_set, if_neg (by omega)]
  obtain ⟨kl, hkl⟩ : ∃ kl, kl = N + 2 + 10 + 3 + 4 := ⟨_, rfl⟩
  rw [← hkl] at L0 low0 ⊢
  refine (c_look hK (by omega) hI hname L0).cW ?_
  rintro r1 H1 n1 ⟨F1, hr1⟩
  have hF1 := F1.le
  have GU : ∀ M', n1 ≤ M' → ∀ j, grw (fun j => S j ∨ j = kl) (N + 2 + 10 + 3 + 6 + 9) n1 j → grw S N M' j := fun M' hM' j hj => by
    rcases hj with (hj | hj) | hj
    · exact .inl hj
    · exact .inr ⟨by omega, by omega⟩
    · exact .inr ⟨by omega, by omega⟩
  have FS : ∀ j, j < N → ¬ S j → lk H1 j = lk H j := fun j hj hn => (F1.out j (by omega) (fun e => e.elim hn fun e => by omega)).trans (low0 j hj)
  have hol : openL d name (sz : Nat) = match lookL d name (nosOf name d.now) [] false false with
      | none => (100, d, none)
      | some (segs, h, g) =>
        if (mendsL d name segs h g).1 ≠ 0 then ((mendsL d name segs h g).1, (mendsL d name segs h g).2.1, none)
        else (0, (mendsL d name segs h g).2.1, some ⟨name, sz, (mendsL d name segs h g).2.2, (match (mendsL d name segs h g).2.2.getLast? with | some s => s.till | none => 0), (match (mendsL d name segs h g).2.2.getLast? with | some s => s.till | none => 0)⟩) := by
    unfold openL nosOf
    rw [if_neg c3, if_neg (by rw [hb]; simp), Int.toNat_natCast]
    rfl
  cases hlk : lookL d name (nosOf name d.now) [] false false with
  | none =>
    rw [hlk] at hr1 hol
    simp only at hol
    obtain ⟨rfl, l1, sv1, ks1, rvs1, L1⟩ := hr1
    obtain ⟨S', p1, p2⟩ := L1.prep
    simp
    refine hQ _ _ _ ?_
    rw [hol]
    exact ⟨⟨by omega, FS⟩, rfl, S', p1.frame (fun _ _ => rfl) (by omega), fun j hj => GU _ (by omega) j (p2 j hj)⟩
  | some x =>
    obtain ⟨segs, hd, lg⟩ := x
    rw [hlk] at hr1 hol
    simp only at hol
    obtain ⟨rfl, sv1, ks1, rvs1, L1⟩ := hr1
    obtain ⟨g1, g2⟩ := look_segs _ _ _ _ hlk
    have g3 : ∀ s ∈ segs, s.no < W64 ∧ s.recs.length ≤ 2 ^ 25 := fun s hs => by
      rcases g2 s hs with e | ⟨no, e1, e2⟩
      · cases e
      · have r := readS_few no (readD d (fileN name no))
        have := readD_len hI (fileN name no)
        rw [e2]
        exact ⟨by rw [r.1]; exact nos_lt no e1, by omega⟩
    have g4 := nos_len name d.now
    have g5 := (hI.way _ (nowW_mem hI.ne)).1
    have hlen : segs.length ≤ 2 ^ 20 := by simp at g1; omega
    simp
    have LB := L1.low (H' := H1) (N' := n1 + 2 + 5) (fun _ _ => rfl) (by omega)
    refine (c_mends (l := ⟨name, sz, segs, 0, 0⟩) hK (by omega) hI hm hname hlen g3 LB hd lg).cW ?_
    rintro _ H2 n2 ⟨rfl, F2, sv2, ks2, L2⟩
    have hF2 := F2.le
    simp only at L2 F2 ⊢
    rcases hmd : mendsL d name segs hd lg with ⟨e, d2, segs2⟩
    rw [hmd] at L2 hol
    simp only at L2 hol
    have GU2 : ∀ M', n2 ≤ M' → ∀ j, grw (grw (fun j => S j ∨ j = kl) (N + 2 + 10 + 3 + 6 + 9) n1) (n1 + 2 + 5) n2 j → grw S N M' j := fun M' hM' j hj => by
      rcases hj with hj | hj
      · exact GU M' (by omega) j hj
      · exact .inr ⟨by omega, by omega⟩
    have FS2 : ∀ j, j < N → ¬ S j → lk H2 j = lk H j := fun j hj hn => (F2.out j (by omega) fun e => (GU n1 (by omega) j e).elim hn fun e => by omega).trans (FS j hj hn)
    by_cases he : e = 0
    · subst he
      rw [if_neg (by simp)] at hol
      have t2 := L2.top
      have sl2 := L2.slen
      have sm2 := L2.smv
      have so2 := L2.sokc
      simp only at t2 sl2
      cases hla : segs2.getLast? with
      | none =>
        have h0 : segs2 = [] := List.getLast?_eq_none_iff.1 hla
        rw [hla] at hol
        simp only at hol
        have hl0 : ¬ 0 < segs2.length := by rw [h0]; simp
        simp [t2, lenA_sl, sl2, sm2, so2, hl0, lk_set]
        refine hQ _ _ _ ?_
        rw [hol]
        refine ⟨⟨by omega, fun j hj hn => ?_⟩, kl, sv2, ks2, rvs1, rfl, (L2.setTop (l' := ⟨name, sz, segs2, 0, 0⟩) (N' := n2 + 2 + 6 + 2 + 8 + 3) rfl (by simp [lk_set]) (fun j hj hjk => by simp [lk_set, hjk]) (by omega)).toNew (kl0 := 0) (GU2 _ (by omega)) h.lt (Nat.le_refl _) (by omega)⟩
        have : ¬ j = kl := by omega
        simp [lk_set, this]
        exact FS2 j hj hn
      | some s =>
        obtain ⟨q, hq⟩ : ∃ q, q = segs2.length - 1 := ⟨_, rfl⟩
        have hpos : 0 < segs2.length := by
          cases segs2 with
          | nil => cases hla
          | cons => simp
        have hs : segs2[q]? = some s := by rw [List.getLast?_eq_getElem?, ← hq] at hla; exact hla
        rw [hla] at hol
        simp only at hol
        have hsm2 : s.no < W64 ∧ s.recs.length ≤ 2 ^ 25 := by
          have hmem := List.mem_of_getElem? hs
          have := mends_segs d name segs hd lg
          rw [hmd] at this
          simp only at this
          rcases this with e | e
          · exact g3 s (e ▸ hmem)
          · exact g3 s ((List.dropLast_sublist _).subset (e ▸ hmem))
        obtain ⟨k, a, g, j0, all, p1, hsv, p2, p3, p4, p5, p6, p7, p8, p9⟩ := L2.at (s := s) (i := q) hs
        simp only at hsv p4 p6
        obtain ⟨r1, r2, r3⟩ := p9.sl
        have wq : IntKind.i64.wrap ((segs2.length : Int) - 1) = (q : Nat) := by
          have : segs2.length ≤ 2 ^ 21 := by
            have := mends_segs d name segs hd lg
            rw [hmd] at this
            simp only at this
            rcases this with e | e
            · rw [e]; omega
            · rw [e, List.length_dropLast]; omega
          rw [wrap_i64 (by omega) (by omega)]
          omega
        have cq : (q : Int) < segs2.length := by omega
        have cq' : q < segs2.length := by omega
        subst hsv
        have nak : ¬ a = kl := ne_of_lk p2 t2 (by simp)
        have nkk : ¬ k = kl := ne_of_lk p7 t2 (by simp)
        simp [t2, lenA_sl, hpos, wq, p2, p3, cq, cq']
        refine (c_end (s := s) (by omega) p7 r1 r2 hsm2.1 (by omega)).cW ?_
        rintro _ _ n5 ⟨rfl, rfl, e10⟩
        simp [t2, lk_set]
        refine hQ _ _ _ ?_
        rw [hol]
        refine ⟨⟨by omega, fun j hj hn => ?_⟩, kl, _, ks2, rvs1, rfl, (L2.setTop (l' := ⟨name, sz, segs2, s.till, s.till⟩) rfl (by simp [lk_set]) (fun j hj hjk => by simp [lk_set, hjk]) (by omega)).toNew (kl0 := 0) (GU2 _ (by omega)) h.lt (Nat.le_refl _) (by omega)⟩
        have : ¬ j = kl := by omega
        simp [lk_set, this]
        exact FS2 j hj hn
    · rw [if_pos he] at hol
      have he2 : (e != 0) = true := by simpa using he
      simp [he, he2]
      refine hQ _ _ _ ?_
      rw [hol]
      obtain ⟨S', p1, p2⟩ := L2.prep
      exact ⟨⟨by omega, FS2⟩, rfl, S', p1.frame (fun _ _ => rfl) (by omega), fun j hj => GU2 _ (by omega) j (p2 j hj)⟩

end Ab
end Go.Proofs.YtmbbnoipoifhhaaGreatDoor
