/-
  DERIVED. The document's disk: Name, find, at.
  Conditions: enough rounds, enough depth; a disk of bounded size.
-/
import Derived.Test.YtecjchghapgdeaaF1
set_option linter.all false
set_option maxHeartbeats 4000000
namespace Go.Proofs.Ytecjchghapgdeaa
namespace Ab
set_option maxRecDepth 100000
set_option maxHeartbeats 8000000
set_option linter.all false
attribute [local simp] wp_region regionA opsA nCall rCall goCallR pCall pnCall lenA appendA appRow newsA rowsSz rowsOf isIntD makeSliceA elemOf rowsBuilt eqA eq1

theorem c_dName {K n : Nat} (hK : big K) (hn : 1 ≤ n) (s : Bs) (hs : s.length ≤ 2 ^ 40) : pR (callA cfg K n) 65 [.s (ba s)] = some (.b (nameOk s)) := by
  obtain ⟨n, rfl⟩ : ∃ m, n = m + 1 := ⟨n - 1, by omega⟩
  refine pr_of rfl ?_ rfl
  refine run_wp Try.func65 rfl (by simp [Try.f65]) ?_
  by_cases h1 : (s.length : Int) < 1
  · have : nameOk s = false := by simp [nameOk]; omega
    simp [h1, this]
  by_cases h2 : (64 : Int) < s.length
  · have : nameOk s = false := by simp [nameOk]; omega
    simp [h1, h2, this]
  simp [h1, h2]
  rw [nameOk_all s (by omega) (by omega)]
  refine loop_wp (ι := Nat × Nat) (fun i => { env := [(0, .s (ba s)), (3, .i .i64 (i.1 : Nat))], loc := [], hp := [], nx := i.2 }) (fun i => s.length - i.1)
    (fun i => i.1 ≤ s.length ∧ (s.all fun c => decide (33 ≤ c.toNat) && decide (c.toNat ≤ 126)) = ((s.drop i.1).all fun c => decide (33 ≤ c.toNat) && decide (c.toNat ≤ 126))) (0, _) rfl ⟨Nat.zero_le _, by simp⟩ (by simp; unfold big at hK; omega) ?_
  rintro Next ⟨i, nx⟩ ⟨hi, he⟩ hnext
  simp only at hi he hnext ⊢
  by_cases hlt : i < s.length
  · have c1 : (i : Int) < s.length := by omega
    have hx : s[i]? = some s[i] := List.getElem?_eq_getElem hlt
    have hd : s.drop i = s[i] :: s.drop (i + 1) := List.drop_eq_getElem_cons hlt
    have c3 : IntKind.i64.wrap ((i : Int) + 1) = ((i + 1 : Nat) : Int) := by rw [wrap_i64 (by omega) (by omega)]; omega
    rw [hd, List.all_cons] at he
    by_cases hb : (s[i].toNat : Int) < 33
    · have : (decide (33 ≤ s[i].toNat) && decide (s[i].toNat ≤ 126)) = false := by simp; omega
      rw [this] at he
      simp [c1, hx, hb, he]
    by_cases hb2 : (126 : Int) < s[i].toNat
    · have : (decide (33 ≤ s[i].toNat) && decide (s[i].toNat ≤ 126)) = false := by simp; omega
      rw [this] at he
      simp [c1, hx, hb, hb2, he]
    have : (decide (33 ≤ s[i].toNat) && decide (s[i].toNat ≤ 126)) = true := by simp; omega
    rw [this, Bool.true_and] at he
    simp [c1, hx, hb, hb2, c3]
    exact hnext (i + 1, _) (by simp only; omega) ⟨hlt, he⟩
  · obtain rfl : i = s.length := by omega
    simp only [List.drop_length, List.all_nil] at he
    simp [he]

/-- A slice's frozen form. -/
structure Fz (z : Bool) (sz : Nat) (rows : List (List AV)) : Prop where
  nil : z = true → rows = []
  sz : z = false → sz = 1
def findI (w : Way) (s : Bs) : Int := match findW w s with
  | some i => i
  | none => -1

theorem findW_cons (e : Bs × Nat) (w : Way) (s : Bs) : findW (e :: w) s = if e.1 = s then some e.2 else findW w s := by
  unfold findW
  rw [List.find?_cons]
  by_cases h : e.1 = s
  · simp [h]
  · have : (e.1 == s) = false := by simpa using h
    simp [h, this]

theorem c_dfind {K n : Nat} (hK : big K) (hn : 1 ≤ n) (z z' : Bool) (sz sz' : Nat) (w : Way) (hz : Fz z sz (nameRows w)) (hz' : Fz z' sz' (fiRows w)) (hw : w.length ≤ 64) (s : Bs) :
    pR (callA cfg K n) 67 [.agg [.vs z sz (nameRows w), .vs z' sz' (fiRows w)], .s (ba s)] = some (.i .i64 (findI w s)) := by
  obtain ⟨n, rfl⟩ : ∃ m, n = m + 1 := ⟨n - 1, by omega⟩
  refine pr_of rfl ?_ rfl
  refine run_wp Try.func67 rfl (by simp [Try.f67]) ?_
  simp
  refine loop_wp (ι := Nat × Nat) (fun i => { env := [(1, .s (ba s)), (2, .lp 2 0 0), (5, .i .i64 (i.1 : Nat))], loc := [(2, 0, .cells [.vs z sz (nameRows w), .vs z' sz' (fiRows w)])], hp := [], nx := i.2 }) (fun i => w.length - i.1)
    (fun i => i.1 ≤ w.length ∧ findI w s = findI (w.drop i.1) s) (0, _) rfl ⟨Nat.zero_le _, by simp⟩ (by simp; unfold big at hK; omega) ?_
  rintro Next ⟨i, nx⟩ ⟨hi, he⟩ hnext
  simp only at hi he hnext ⊢
  by_cases hlt : i < w.length
  · have c1 : (i : Int) < w.length := by omega
    have c3 : IntKind.i64.wrap ((i : Int) + 1) = ((i + 1 : Nat) : Int) := by rw [wrap_i64 (by omega) (by omega)]; omega
    obtain ⟨e, hx⟩ : ∃ e, w[i]? = some e := ⟨w[i], List.getElem?_eq_getElem hlt⟩
    have hd : w.drop i = e :: w.drop (i + 1) := by
      rw [List.drop_eq_getElem_cons hlt]
      rw [List.getElem?_eq_getElem hlt] at hx
      cases hx; rfl
    have hzf : z = false := by
      cases z with
      | false => rfl
      | true => have := hz.nil rfl; simp [nameRows] at this; subst this; simp at hlt
    have hzf' : z' = false := by
      cases z' with
      | false => rfl
      | true => have := hz'.nil rfl; simp [fiRows] at this; subst this; simp at hlt
    have hs1 := hz.sz hzf
    have hs2 := hz'.sz hzf'
    subst hzf hzf' hs1 hs2
    have n1 : (nameRows w)[i]? = some [.s (ba e.1)] := by simp [nameRows, hx]
    have n2 : (fiRows w)[i]? = some [.i .i64 (e.2 : Nat)] := by simp [fiRows, hx]
    rw [hd] at he
    unfold findI at he
    rw [findW_cons] at he
    cases hes : e.1 == s with
    | true =>
      have : e.1 = s := by simpa using hes
      rw [if_pos this] at he
      simp only at he
      have he2 : findI w s = e.2 := he
      simp [c1, n1, n2, ba_list, hes, he2]
    | false =>
      have : e.1 ≠ s := by simpa using hes
      rw [if_neg this] at he
      simp [c1, n1, n2, ba_list, hes, c3]
      exact hnext (i + 1, _) (by simp only; omega) ⟨hlt, he⟩
  · obtain rfl : i = w.length := by omega
    simp only [List.drop_length] at he
    have he2 : findI w s = -1 := he
    simp [he2]

/-- What a slice on the heap is, frozen. -/
theorem sv_frz {hp : Hp} {S : Nat → Prop} {v : AV} {rows : List (List AV)} (h : SV 1 hp S v rows) (hr : ∀ r ∈ rows, r.all fl1 = true) :
    ∃ z sz, Fz z sz rows ∧ (rf1 v = true → v = .vs z sz rows) ∧ ∀ env loc nx m, frz (St.get ⟨env, loc, hp, nx⟩) (m + 2) v = some (.vs z sz rows) := by
  rcases h with ⟨rfl, z, rfl⟩ | ⟨a, g, i0, all, rfl, h1, h2, h3, _⟩
  · exact ⟨true, z, ⟨fun _ => rfl, fun h => by cases h⟩, fun _ => rfl, fun _ _ _ _ => rfl⟩
  · refine ⟨false, 1, ⟨(fun h => by cases h), (fun _ => rfl)⟩, (fun h => by cases h), fun env loc nx m => ?_⟩
    rw [frz_rs]
    have : ∀ l : List (List AV), (∀ r ∈ l, r.all fl1 = true) → mapO (mapO (frz (St.get ⟨env, loc, hp, nx⟩) (m + 1))) l = some l := by
      intro l hl
      induction l with
      | nil => rfl
      | cons r l ih =>
        simp only [mapO, fl1_mapO_self (hl r List.mem_cons_self), ih fun r hr => hl r (List.mem_cons_of_mem _ hr), Option.map_some]
    simp [rowsOf, St.get, h1, h2, h3, this rows hr]
theorem nameRows_fl (w : Way) : ∀ r ∈ nameRows w, r.all fl1 = true := fun r hr => by
  simp [nameRows] at hr; obtain ⟨_, _, _, rfl⟩ := hr; rfl
theorem fiRows_fl (w : Way) : ∀ r ∈ fiRows w, r.all fl1 = true := fun r hr => by
  simp [fiRows] at hr; obtain ⟨_, _, _, rfl⟩ := hr; rfl

def datR (d : Dk) (s : Bs) : AV := if !nameOk s then .tup [.i .i64 0, .i .i64 6] else match findW d.now s with
  | none => .tup [.i .i64 0, .i .i64 40]
  | some i => .tup [.i .i64 (i : Nat), .i .i64 0]

theorem c_dat {K n N : Nat} (hK : big K) (hn : 2 ≤ n) {d : Dk} {k : Nat} {fv wv : AV} {fr wr : List (List AV)} {hp : Hp} {nx : Nat} {S : Nat → Prop} (hI : d.Inv N) (hN : N ≤ 2 ^ 21) (h : DDk hp k fv wv fr wr d S) (s : Bs) (hs : s.length ≤ 2 ^ 40) :
    Sp K n 71 [.ptr k 0 0, .s (ba s)] hp nx fun r hp' nx' => r = datR d s ∧ hp' = hp ∧ nx ≤ nx' := by
  refine sp_cps fun Q hQ => ?_
  obtain ⟨n, rfl⟩ : ∃ m, n = m + 1 := ⟨n - 1, by omega⟩
  have hc := c_dName (n := n) hK (by omega) s hs
  obtain ⟨a, b, nf, h2, h3, hnow⟩ := f_dnow (K := K) (n := n) (by omega) hI hN h
  have e1 := fun nx => (hnow nx).1
  have g1 : ∀ N c, nx ≤ N → nx ≤ nf N + c := fun N c hN => leA (Nat.le_trans hN (hnow N).2)
  obtain ⟨z, sz, hz, r1, f1⟩ := sv_frz h2 (nameRows_fl _)
  obtain ⟨z', sz', hz', r2, f2⟩ := sv_frz h3 (fiRows_fl _)
  have hf := c_dfind (n := n) hK (by omega) z z' sz sz' d.now hz hz' hI.nowlen s
  have hf' : rf1 a = true → rf1 b = true → pR (callA cfg K n) 67 [.agg [a, b], .s (ba s)] = some (.i .i64 (findI d.now s)) := fun h1 h2 => by rw [r1 h1, r2 h2]; exact hf
  refine sp_of rfl (run_wp Try.func71 rfl (by simp [Try.f71]) ?_)
  cases hn : nameOk s with
  | false =>
    simp [hc, hn]
    refine hQ _ _ _ ?_
    exact ⟨by simp [datR, hn], rfl, by omega⟩
  | true =>
    cases hi : findW d.now s with
    | none =>
      have hfi : findI d.now s = -1 := by unfold findI; rw [hi]
      rw [hfi] at hf hf'
      cases ha : rf1 a <;> cases hb : rf1 b <;> simp [hc, hn, e1, f1, f2, hf, hf', ha, hb]
      all_goals
        refine hQ _ _ _ ?_
        exact ⟨by simp [datR, hn, hi], rfl, by have := (hnow (nx + 2 + 3 + 5)).2; simp only [Nat.add_assoc] at *; omega⟩
    | some i =>
      have hfi : findI d.now s = (i : Nat) := by unfold findI; rw [hi]
      rw [hfi] at hf hf'
      have h0 : ¬ ((i : Nat) : Int) < 0 := by omega
      cases ha : rf1 a <;> cases hb : rf1 b <;> simp [hc, hn, e1, f1, f2, hf, hf', ha, hb, h0]
      all_goals
        refine hQ _ _ _ ?_
        exact ⟨by simp [datR, hn, hi], rfl, by have := (hnow (nx + 2 + 3 + 5)).2; simp only [Nat.add_assoc] at *; omega⟩

theorem f_dat {K n N : Nat} (hK : big K) (hn : 2 ≤ n) {d : Dk} {k : Nat} {fv wv : AV} {fr wr : List (List AV)} {hp : Hp} {S : Nat → Prop} (hI : d.Inv N) (hN : N ≤ 2 ^ 21) (h : DDk hp k fv wv fr wr d S) (s : Bs) (hs : s.length ≤ 2 ^ 40) :
    ∃ nf : Nat → Nat, ∀ nx, callA cfg K n 71 [.ptr k 0 0, .s (ba s)] hp nx = some (datR d s, hp, nf nx) ∧ nx ≤ nf nx := by
  refine ⟨fun nx => ((callA cfg K n 71 [.ptr k 0 0, .s (ba s)] hp nx).getD (.undef, [], 0)).2.2, fun nx => ?_⟩
  obtain ⟨r, hp', nx', e1, rfl, rfl, e3⟩ := c_dat (K := K) (nx := nx) hK hn hI hN h s hs
  simp [e1, e3]

end Ab
end Go.Proofs.Ytecjchghapgdeaa
