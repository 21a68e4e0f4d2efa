/-
  DERIVED. Two disks begun; calls played on them.
  Conditions: enough rounds, enough depth; bounded lengths.
-/
import Derived.Test.YtecjchghapgdeaaJ6
set_option linter.all false
set_option maxHeartbeats 4000000
namespace Go.Proofs.Ytecjchghapgdeaa
namespace Ab
set_option maxRecDepth 100000
set_option maxHeartbeats 8000000
set_option linter.all false
attribute [local simp] wp_regW opsW_nil opsW_cons opsK_eq regK_no regK_draw oW_n oW_h oW_r oW_pn convA appendA appRow newsA rowsSz rowsOf isIntD makeSliceA elemOf rowsBuilt eqA eq1

theorem c_dNew0 {K n nx : Nat} {hp : Hp} (hn : 1 ≤ n) (q : Int) (hq : q < 0 ∨ 16777216 < q) : Sp K n 37 [.i .i64 q] hp nx fun r hp' nx' => r = .tup [.np, .i .i64 1] ∧ hp' = hp ∧ nx ≤ nx' := by
  refine sp_cps fun Q hQ => ?_
  obtain ⟨n, rfl⟩ : ∃ m, n = m + 1 := ⟨n - 1, by omega⟩
  refine sp_of rfl (run_wp Try.func37 rfl (by simp [Try.f37]) ?_)
  by_cases h1 : q < 0
  · simp [h1]
    exact hQ _ _ _ ⟨rfl, rfl, by omega⟩
  · have h2 : 16777216 < q := by omega
    simp [h1, h2]
    exact hQ _ _ _ ⟨rfl, rfl, by omega⟩

theorem c_dNew1 {K n nx : Nat} {hp : Hp} (hn : 1 ≤ n) (q : Nat) (hq : q ≤ 16777216) : Sp K n 37 [.i .i64 (q : Nat)] hp nx fun r hp' nx' => nx ≤ nx' ∧ (∀ j, j < nx → lk hp' j = lk hp j) ∧ ∃ a S, r = .tup [.ptr a 0 0, .i .i64 0] ∧ DRep hp' nx' a (newDk q) S ∧ ∀ j, S j → nx ≤ j := by
  refine sp_cps fun Q hQ => ?_
  obtain ⟨n, rfl⟩ : ∃ m, n = m + 1 := ⟨n - 1, by omega⟩
  refine sp_of rfl (run_wp Try.func37 rfl (by simp [Try.f37]) ?_)
  have h1 : ¬ (q : Int) < 0 := by omega
  have h2 : ¬ (16777216 : Int) < q := by omega
  simp [h1, h2, Nat.add_assoc]
  refine hQ _ _ _ ⟨by omega, low_up (low_up low_refl (by omega)) (by omega), _, (fun j => nx ≤ j ∧ j < nx + 14), rfl, ⟨fun j hj => by omega, .vs true 0 [], _, [], [[.vs true 0 [], .vs true 0 []]], ?_, ?_, .inl ⟨rfl, 0, rfl⟩, .inr ⟨nx + 10, 0, 0, [[.vs true 0 [], .vs true 0 []]], rfl, ?_, rfl, by simp, ?_⟩, ⟨rfl, fun i r x h => by simp at h⟩, ⟨rfl, fun i r x h1 h2 => ?_⟩⟩, fun j hj => hj.1⟩
  · simp [lk_set, newDk]
  · exact ⟨by omega, by omega⟩
  · simp [lk_set]
  · exact ⟨by omega, by omega⟩
  · cases i with
    | succ i => cases h1
    | zero =>
      cases h1; cases h2
      exact ⟨_, _, rfl, .inl ⟨rfl, 0, rfl⟩, .inl ⟨rfl, 0, rfl⟩⟩

theorem c_Begins0 {K n nx : Nat} {hp : Hp} (hn : 2 ≤ n) (q : Int) (hq : q < 0 ∨ 16777216 < q) : Sp K n 24 [.i .i64 q] hp nx fun r hp' nx' => r = .tup [.np, .b true] := by
  refine sp_cps fun Q hQ => ?_
  obtain ⟨n, rfl⟩ : ∃ m, n = m + 1 := ⟨n - 1, by omega⟩
  have e0 := fun nx => c_pNew0 (K := K) (n := n) (nx := nx) (by omega) q hq
  refine sp_of rfl (run_wp Try.func24 rfl (by simp [Try.f24]) ?_)
  simp [e0]
  refine (c_dNew0 (by omega) q hq).cW ?_
  rintro _ hp1 n1 ⟨rfl, rfl, g1⟩
  simp
  exact hQ _ _ _ rfl

theorem c_Begins1 {K n nx : Nat} {hp : Hp} (hn : 2 ≤ n) (q : Nat) (hq : q ≤ 16777216) : Sp K n 24 [.i .i64 (q : Nat)] hp nx fun r hp' nx' => ∃ x S, r = .tup [.ptr x 0 0, .b true] ∧ Pr hp' nx' x (newDk q) S ∧ (∀ j, S j → nx ≤ j) ∧ nx ≤ nx' ∧ ∀ j, j < nx → lk hp' j = lk hp j := by
  refine sp_cps fun Q hQ => ?_
  obtain ⟨n, rfl⟩ : ∃ m, n = m + 1 := ⟨n - 1, by omega⟩
  have e0 := fun nx => c_pNew1 (K := K) (n := n) (nx := nx) (by omega) q hq
  refine sp_of rfl (run_wp Try.func24 rfl (by simp [Try.f24]) ?_)
  simp [e0, Nat.add_assoc]
  have hp0 : PRep (up (up hp (nx + 20) (0, .cells [.i .i64 (q : Nat), .mp (some (nx + 18)), .vs true 0 [], .i .i64 0])) (nx + 18) (0, .mp [])) (nx + 30) (nx + 20) (newDk q) (fun j => nx ≤ j ∧ j < nx + 30) :=
    new_rep (a := nx + 18) (b := nx + 20) (by omega) (by omega) (by omega) (by omega) (by omega) (by simp [lk_set]) (by simp [lk_set])
  have hl0 : ∀ j, j < nx → lk (up (up hp (nx + 20) (0, .cells [.i .i64 (q : Nat), .mp (some (nx + 18)), .vs true 0 [], .i .i64 0])) (nx + 18) (0, .mp [])) j = lk hp j := low_up (low_up low_refl (by omega)) (by omega)
  refine (c_dNew1 (by omega) q hq).cW ?_
  rintro _ hp2 n2 ⟨g2, l2, a, S2, rfl, hd, hS2⟩
  simp [Nat.add_assoc]
  have hS2l := hd.lt
  refine hQ _ _ _ ⟨n2 + 15, fun j => j = n2 + 15 ∨ (nx ≤ j ∧ j < nx + 30) ∨ S2 j, rfl, ⟨nx + 20, a, (fun j => nx ≤ j ∧ j < nx + 30), S2, ⟨by simp [lk_set], hp0.frame (fun j hj => ?_) (by omega), hd.frame (fun j hj => ?_) (by omega), (by omega), (fun e => by have := hS2l _ e; omega), (fun j hj e => by have := hS2 j e; omega), by omega⟩, fun j => Iff.rfl⟩, fun j hj => ?_, by omega, fun j hj => ?_⟩
  · rw [lk_set, if_neg (by omega)]
    exact l2 j (by omega)
  · have := hS2l j hj
    rw [lk_set, if_neg (by omega)]
  · rcases hj with rfl | hj | hj
    · omega
    · exact hj.1
    · have := hS2 j hj
      omega
  · rw [lk_set, if_neg (by omega), l2 j (by omega), hl0 j hj]

theorem c_played0 {K n nx : Nat} {hp : Hp} {v : AV} (hn : 3 ≤ n) (hv : v.mv = true) (q : Int) (hq : q < 0 ∨ 16777216 < q) : Sp K n 17 [.i .i64 q, v] hp nx fun r hp' nx' => r = .tup [.np, .b true] := by
  refine sp_cps fun Q hQ => ?_
  obtain ⟨n, rfl⟩ : ∃ m, n = m + 1 := ⟨n - 1, by omega⟩
  refine sp_of rfl (run_wp Try.func17 rfl (by simp [Try.f17]) ?_)
  simp
  refine (c_Begins0 (by omega) q hq).cW ?_
  rintro _ hp1 n1 rfl
  simp
  exact hQ _ _ _ rfl

/-- The laws' argument: calls. -/
def ActRows (rows : List (List AV)) (l : List ActD) : Prop := Rel2 (fun r a => ∃ zb zk, r = actV a zb zk ∧ (zb = true → a.b = []) ∧ (zk = true → a.keeps = [])) rows l
def playD (d : Dk) (l : List ActD) : Dk := l.foldl Dk.does d
theorem playD_inv {d : Dk} {m : Nat} : ∀ {l : List ActD}, d.Inv m → (∀ a ∈ l, a.ok) → (playD d l).Inv (m + l.length)
  | [], h, _ => h
  | a :: l, h, hl => by
    have h1 := h.does a ⟨(hl a List.mem_cons_self).2.2.2.2.1, (hl a List.mem_cons_self).2.2.2.2.2⟩
    have := playD_inv (l := l) h1 fun b hb => hl b (List.mem_cons_of_mem _ hb)
    rw [List.length_cons, show m + (l.length + 1) = m + 1 + l.length by omega]
    exact this

theorem c_played1 {K n nx : Nat} {hp : Hp} (hK : big K) (hn : 6 ≤ n) (q : Nat) (hq : q ≤ 16777216) (za : Bool) (rows : List (List AV)) (l : List ActD) (hza : za = true → rows = []) (hr : ActRows rows l) (hl : l.length ≤ 2 ^ 19) (hok : ∀ a ∈ l, a.ok ∧ a.b.length ≤ 2 ^ 25) :
    Sp K n 17 [.i .i64 (q : Nat), .vs za 6 rows] hp nx fun r hp' nx' => ∃ p S, r = .tup [.ptr p 0 0, .b true] ∧ PRep hp' nx' p (playD (newDk q) l) S ∧ nx ≤ nx' := by
  refine sp_cps fun Q hQ => ?_
  obtain ⟨n, rfl⟩ : ∃ m, n = m + 1 := ⟨n - 1, by omega⟩
  refine sp_of rfl (run_wp Try.func17 rfl (by simp [Try.f17]) ?_)
  simp
  refine (c_Begins1 (by omega) q hq).cW ?_
  rintro _ hp1 n1 ⟨x, S, rfl, hP, hS, g1, l1⟩
  simp
  refine loop_wp (ι := Nat × (Nat → Prop) × Hp × Nat) (fun i => { env := [(1, .vs za 6 rows), (6, .ptr x 0 0), (8, .i .i64 (i.1 : Nat))], loc := [], hp := i.2.2.1, nx := i.2.2.2 }) (fun i => l.length - i.1)
    (fun i => i.1 ≤ l.length ∧ nx ≤ i.2.2.2 ∧ Pr i.2.2.1 i.2.2.2 x (playD (newDk q) (l.take i.1)) i.2.1) (0, S, hp1, _) rfl ⟨Nat.zero_le _, by simp only; omega, hP.frame (fun _ _ => rfl) (by simp only; omega)⟩ (by simp; unfold big at hK; omega) ?_
  rintro Next ⟨i, S, H, N⟩ ⟨hi, hN, hP⟩ hnext
  simp only at hi hN hP hnext ⊢
  have hrl := hr.1
  by_cases hlt : i < l.length
  · have c1 : (i : Int) < rows.length := by omega
    have c3 : IntKind.i64.wrap ((i : Int) + 1) = ((i + 1 : Nat) : Int) := by rw [wrap_i64 (by omega) (by omega)]; omega
    obtain ⟨a, hx⟩ : ∃ a, l[i]? = some a := ⟨_, List.getElem?_eq_getElem hlt⟩
    obtain ⟨r, p1, zb, zk, rfl, z1, z2⟩ := hr.get hx
    have zf : za = false := by
      cases za with
      | false => rfl
      | true => have := hza rfl; rw [this] at p1; simp at p1
    subst zf
    have ha := hok a (List.mem_of_getElem? hx)
    have hI : (playD (newDk q) (l.take i)).Inv (0 + (l.take i).length) := playD_inv (newDk_inv q hq) fun b hb => (hok b (List.mem_of_mem_take hb)).1
    rw [Nat.zero_add] at hI
    have hil : (l.take i).length ≤ 2 ^ 20 := by rw [List.length_take]; omega
    simp [lenA_sl, c1, p1, actV]
    refine (c_Does hK (by omega) hI hil (hP.frame (fun _ _ => rfl) (by omega)) a ha.1 ha.2 zb zk z1 z2).cW ?_
    rintro _ hp2 n2 ⟨rfl, S', s1, h2, f2⟩
    have hle := f2.le
    simp [c3]
    refine hnext (i + 1, S', hp2, _) (by simp only; omega) ⟨by simp only; omega, by simp only; omega, ?_⟩
    have : playD (newDk q) (l.take (i + 1)) = (playD (newDk q) (l.take i)).does a := by
      rw [List.take_add_one, hx]
      simp [playD]
    simp only
    rw [this]
    exact h2.frame (fun _ _ => rfl) (by omega)
  · obtain rfl : i = l.length := by omega
    obtain ⟨p, q', Sp, Sq, h, hS2⟩ := hP
    rw [List.take_length] at h
    simp [lenA_sl, hrl, h.cell]
    exact hQ _ _ _ ⟨p, Sp, rfl, h.prep.frame (fun _ _ => rfl) (by omega), by omega⟩

end Ab
end Go.Proofs.Ytecjchghapgdeaa
