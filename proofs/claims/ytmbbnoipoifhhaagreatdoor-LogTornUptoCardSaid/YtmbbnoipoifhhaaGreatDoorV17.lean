/-
  DERIVED. The law's own functions: own, size, told.
  Conditions: enough rounds, enough depth; bounded lengths.
-/
import Derived.Test.YtmbbnoipoifhhaaGreatDoorV16
set_option linter.all false
set_option maxHeartbeats 4000000
namespace Go.Proofs.YtmbbnoipoifhhaaGreatDoor
namespace Ab
set_option maxRecDepth 100000
set_option maxHeartbeats 8000000
set_option linter.all false
attribute [local simp] wp_regW opsW_nil opsW_cons opsK_eq regK_no regK_draw oW_n oW_h oW_r oW_pn convA appendA appRow newsA rowsSz rowsOf isIntD makeSliceA elemOf rowsBuilt eqA eq1
attribute [-simp] fCall
variable {kl kd : Nat} {d : Dk} {U S T : Nat → Prop} {sv : AV} {ks : List Nat} {rvs : Nat → AV} {H H' : Hp} {N N' K n m : Nat} {l : Lg} {name : Bs}

theorem c_wown {nx : Nat} (hn : 1 ≤ n) (z : Bool) (b : Bs) (hz : z = true → b = []) (hb : b.length ≤ 2 ^ 30) :
    callA cfg K n 11 [.vs z 1 (byteRows b)] [] nx = some (.rs (nx + 4) (if b = [] then 0 else 1) 0 b.length 1, [(nx + 4, (if b = [] then 0 else 1, .arr 1 (byteRows b)))], nx + 8) := by
  obtain ⟨n, rfl⟩ : ∃ m, n = m + 1 := ⟨n - 1, by omega⟩
  have w1 : IntKind.i64.wrap ((b.length : Int) + 2) = (b.length : Int) + 2 := wrap_i64 (by omega) (by omega)
  have w2 : (0 : Int) ≤ (b.length : Int) + 2 := by omega
  have w3 : ((b.length : Int) + 2).toNat * 2 ≤ 68719476736 := by omega
  have d1 : b.length * 2 ≤ 68719476736 := by omega
  have : Sp K (n + 1) 11 [.vs z 1 (byteRows b)] [] nx fun r hp' nx' => r = .rs (nx + 4) (if b = [] then 0 else 1) 0 b.length 1 ∧ hp' = [(nx + 4, (if b = [] then 0 else 1, .arr 1 (byteRows b)))] ∧ nx' = nx + 8 := by
    refine sp_cps fun Q hQ => ?_
    refine sp_of rfl (run_wp Tryz.func11 rfl (by simp [Tryz.f11]) ?_)
    by_cases hb0 : b = []
    · subst hb0
      have e0 : byteRows [] = [] := rfl
      have w4 : IntKind.i64.wrap 2 = 2 := wrap_i64 (by omega) (by omega)
      cases z <;> simp [lenA_sl, e0, mostB, w4, lk_set]
      all_goals exact hQ _ _ _ ⟨rfl, rfl, rfl⟩
    · have hzf : z = false := by
        cases z with
        | false => rfl
        | true => exact absurd (hz rfl) hb0
      subst hzf
      have hb2 : byteRows b ≠ [] := fun e => hb0 (by simpa [byteRows] using e)
      have hb3 : ¬ b.length = 0 := fun e => hb0 (List.length_eq_zero_iff.1 e)
      simp [lenA_sl, mostB, w1, w2, w3, lk_set, hb2, hb3, d1, hb0, shown_nil]
      exact hQ _ _ _ ⟨by simp [hb0], by simp [hb0], rfl⟩
  obtain ⟨r, hp', nx', h1, h2, h3, h4⟩ := this
  rw [h1, h2, h3, h4]

def strRows (l : List Bs) : List (List AV) := l.map fun s => [.s (ba s)]
@[simp] theorem strRows_len (l : List Bs) : (strRows l).length = l.length := by simp [strRows]
/-- A slice of texts: none, or what an array shows from its first place on. -/
def AllV (H : Hp) (av : AV) (all : List Bs) (P : Nat → Prop) : Prop := (all = [] ∧ av = .vs true 0 []) ∨ ∃ (ka ga : Nat) (rows : List (List AV)), av = .rs ka ga 0 all.length 1 ∧ lk H ka = some (ga, .arr 1 rows) ∧ rows.take all.length = strRows all ∧ all.length ≤ rows.length ∧ P ka
theorem AllV.sl {P : Nat → Prop} {av : AV} {all : List Bs} (h : AllV H av all P) : slLen av = some all.length ∧ av.mv = true := by
  rcases h with ⟨rfl, rfl⟩ | ⟨a, g, rows, rfl, _⟩ <;> exact ⟨rfl, rfl⟩
theorem AllV.keep {P P' : Nat → Prop} {av : AV} {all : List Bs} (h : AllV H av all P) (hf : ∀ j, P j → lk H' j = lk H j) (hP : ∀ j, P j → P' j) : AllV H' av all P' := by
  rcases h with h | ⟨a, g, rows, h1, h2, h3, h4, h5⟩
  · exact .inl h
  · exact .inr ⟨a, g, rows, h1, (hf a h5).trans h2, h3, h4, hP a h5⟩
theorem AllV.get {P : Nat → Prop} {av : AV} {all : List Bs} (h : AllV H av all P) {i : Nat} {b : Bs} (hb : all[i]? = some b) : ∃ (ka ga : Nat) (rows : List (List AV)), av = .rs ka ga 0 all.length 1 ∧ lk H ka = some (ga, .arr 1 rows) ∧ rows[i]? = some [.s (ba b)] ∧ i < all.length ∧ P ka := by
  have hi := (List.getElem?_eq_some_iff.1 hb).1
  rcases h with ⟨rfl, _⟩ | ⟨a, g, rows, h1, h2, h3, h4, h5⟩
  · simp at hb
  · refine ⟨a, g, rows, h1, h2, ?_, hi, h5⟩
    have := congrArg (fun l => l[i]?) h3
    simp only [List.getElem?_take_of_lt hi] at this
    rw [this, strRows, List.getElem?_map, hb]
    rfl

/-- What told looks at. -/
structure ToldOk (l : Lg) (all : List Bs) : Prop where
  pos : 1 ≤ l.first
  le : l.first ≤ l.last + 1
  last : l.last ≤ all.length
  ok : (l.read l.first (all.length : Nat)).1 = 0
  len : (l.read l.first (all.length : Nat)).2.length = l.last + 1 - l.first
  at_ : ∀ (i : Nat) (e : Nat × Bs), (l.read l.first (all.length : Nat)).2[i]? = some e → e.1 = l.first + i ∧ all[e.1 - 1]? = some e.2
theorem c_told (hK : big K) (hn : 5 ≤ n) (hB : LB l) (hall : l.all.length ≤ 2 ^ 29) (h : LX kl kd l d U sv ks rvs H N) {av : AV} {all : List Bs} {P : Nat → Prop} (ha : AllV H av all P) (hP : ∀ j, P j → j < N) (hal : all.length ≤ 2 ^ 25) (ho : ToldOk l all) :
    Sp K n 16 [.ptr kl 0 0, av] H N fun r H' N' => r = .b true ∧ N ≤ N' ∧ ∀ j, j < N → lk H' j = lk H j := by
  refine sp_cps fun Q hQ => ?_
  obtain ⟨n, rfl⟩ : ∃ m, n = m + 1 := ⟨n - 1, by omega⟩
  obtain ⟨o1, o2, o3, o4, o5, o6⟩ := ho
  obtain ⟨s1, s2⟩ := ha.sl
  refine sp_of rfl (run_wp Tryz.func16 rfl (by simp [Tryz.f16]) ?_)
  simp
  refine (c_First (n := n) (by omega) hB (h.low (H' := H) (N' := N + 1 + 6) (fun _ _ => rfl) (by omega))).cW ?_
  rintro _ H0 n1 ⟨rfl, hH0, e1⟩
  have hH0' := hH0.symm
  subst hH0'
  simp
  refine (c_Last (n := n) (by omega) (h.low (H' := H) (N' := n1) (fun _ _ => rfl) (by omega))).cW ?_
  rintro _ H0 n2 ⟨rfl, hH1, e2⟩
  have hH1' := hH1.symm
  subst hH1'
  have hl := hB.last
  have c1 : ¬ (l.first : Int) < 1 := by omega
  have w1 : IntKind.u64.wrap ((l.last : Int) + 1) = ((l.last + 1 : Nat) : Int) := by rw [wrap_u64Z]; omega
  have w2 : IntKind.u64.wrap (all.length : Int) = (all.length : Nat) := wrap_u64' (by omega)
  obtain ⟨la1, hla1⟩ : ∃ la1, la1 = l.last + 1 := ⟨_, rfl⟩
  rw [← hla1] at w1
  have c2 : ¬ la1 < l.first := by omega
  have c3 : ¬ all.length < l.last := by omega
  have c1' : ¬ l.first = 0 := by omega
  simp [c1, w1, c2, lenA_sl, s1, s2, w2, c3, c1']
  refine (c_lread (n := n) hK (by omega) hB hall (h.low (H' := H) (N' := n2 + 15 + 10) (fun _ _ => rfl) (by omega)) (most := (all.length : Nat)) (by unfold W64 at *; omega)).cW ?_
  rintro _ H1 n3 ⟨e3, e4, rv, rfl, hv⟩
  rw [o4]
  generalize hrs : (l.read l.first (all.length : Nat)).2 = rs at *
  obtain ⟨v1, v2⟩ := hv.sl
  have w3 : IntKind.u64.wrap (rs.length : Int) = (rs.length : Nat) := wrap_u64' (by omega)
  have w4 : IntKind.u64.wrap ((la1 : Int) - (l.first : Nat)) = (rs.length : Nat) := by rw [wrap_u64Z]; omega
  have ha1 : AllV H1 av all P := ha.keep (fun j hj => e4 j (by have := hP j hj; omega)) fun _ h => h
  simp [lenA_sl, v1, v2, w3, w4, w1]
  refine loop_wp (ι := Nat × Nat) (fun i => { env := [(1, av), (5, .i .u64 (l.first : Nat)), (7, rv), (9, .i .i64 (i.1 : Nat))], loc := [], hp := H1, nx := i.2 }) (fun i => rs.length - i.1) (fun i => i.1 ≤ rs.length ∧ n3 ≤ i.2) (0, _) rfl ⟨Nat.zero_le _, ?_⟩ (by simp; unfold big at hK; omega) ?_
  · simp only; omega
  rintro Next ⟨i, M⟩ ⟨hi, hM⟩ hnext
  simp only at hi hM hnext ⊢
  by_cases hlt : i < rs.length
  · obtain ⟨e, he⟩ : ∃ e, rs[i]? = some e := ⟨_, List.getElem?_eq_getElem hlt⟩
    obtain ⟨f1, f2⟩ := o6 i e he
    obtain ⟨ka, ga, rows, rfl, g2, g3, g4, g5⟩ := ha1.get f2
    rcases hv with ⟨x1, _⟩ | ⟨ra, rg, rws, x0, rfl, x1, x2, x3, x4⟩
    · rw [x1] at hlt; cases hlt
    obtain ⟨r, hr⟩ : ∃ r, rws[i]? = some r := ⟨_, List.getElem?_eq_getElem (by omega)⟩
    obtain ⟨v, rfl, hvb⟩ := x4 i r e hr he
    have d1 : (i : Int) < rs.length := by omega
    have d3 : IntKind.i64.wrap ((i : Int) + 1) = ((i + 1 : Nat) : Int) := by rw [wrap_i64 (by omega) (by omega)]; omega
    have wi : IntKind.u64.wrap (i : Int) = (i : Nat) := wrap_u64' (by omega)
    have wf : IntKind.u64.wrap ((l.first : Int) + (i : Nat)) = (e.1 : Nat) := by rw [wrap_u64Z, f1]; unfold W64 at *; omega
    obtain ⟨e0, he0⟩ : ∃ e0, e0 = e.1 - 1 := ⟨_, rfl⟩
    rw [← he0] at g3 g4
    have we : IntKind.u64.wrap ((e.1 : Int) - 1) = (e0 : Nat) := by rw [wrap_u64Z]; unfold W64 at *; omega
    have g4' : (e0 : Int) < all.length := by omega
    have key : ∀ M', M ≤ M' → Next { env := [(1, .rs ka ga 0 all.length 1), (5, .i .u64 (l.first : Nat)), (7, .rs ra rg 0 rs.length 2), (9, .i .i64 ((i : Int) + 1))], loc := [], hp := H1, nx := M' } := fun M' hM' =>
      hnext (i + 1, M') (by simp only; omega) ⟨hlt, by simp only; omega⟩
    have ee : ∀ x : Bs, ({ data := x.toArray } : ByteArray) = ba x := fun _ => rfl
    rcases hvb.bytes with ⟨b0, rfl⟩ | ⟨kb, gb, rfl, b1, b2⟩
    · have emp : ({ data := #[] } : ByteArray) = ba e.2 := by rw [b0]; rfl
      have ebo : bytesOf [] = some [] := rfl
      simp [lenA_sl, d1, x1, hr, wi, wf, we, g2, g3, g4, g4', ebo, d3, ee, emp, ba_list, b0]
      refine ⟨⟨by kernel_rfl, dyn_quiet (by simp [quietE])⟩, ?_⟩
      exact key _ (by omega)
    · have bo := bytesOf_rows e.2
      have tk : (byteRows e.2).take e.2.length = byteRows e.2 := rows_take rfl
      simp [lenA_sl, d1, x1, hr, wi, wf, we, g2, g3, g4, g4', b1, tk, bo, d3, ee, ba_list]
      refine ⟨⟨by kernel_rfl, dyn_quiet (by simp [quietE])⟩, ?_⟩
      exact key _ (by omega)
  · obtain rfl : i = rs.length := by omega
    simp [lenA_sl, v1, v2]
    exact hQ _ _ _ ⟨rfl, by omega, fun j hj => e4 j (by omega)⟩

end Ab
end Go.Proofs.YtmbbnoipoifhhaaGreatDoor
