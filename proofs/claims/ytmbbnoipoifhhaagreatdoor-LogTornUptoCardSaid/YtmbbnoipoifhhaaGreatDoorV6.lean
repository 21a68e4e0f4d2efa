/-
  DERIVED. slices.Sort of numbers that are sorted already: they stay.
  Conditions: enough rounds, enough depth; at most 64 numbers.
-/
import Derived.Test.YtmbbnoipoifhhaaGreatDoorVB
set_option linter.all false
set_option maxHeartbeats 4000000
namespace Go.Proofs.YtmbbnoipoifhhaaGreatDoor
namespace Ab
set_option maxRecDepth 100000
set_option maxHeartbeats 8000000
set_option linter.all false
attribute [local simp] wp_regW opsW_nil opsW_cons opsK_eq regK_no regK_draw oW_n oW_h oW_r oW_pn convA appendA appRow newsA rowsSz rowsOf isIntD makeSliceA elemOf rowsBuilt eqA eq1

def lenT (x : Nat) : Int := if x = 0 then 0 else (Nat.log2 x + 1 : Nat)
theorem c_len64 {K n x : Nat} (hn : 1 ≤ n) (hx : x ≤ 64) : pR (callA cfg K n) 150 [.i .u64 (x : Nat)] = some (.i .i64 (lenT x)) := by
  obtain ⟨n, rfl⟩ : ∃ m, n = m + 1 := ⟨n - 1, by omega⟩
  have h : ((List.range 65).map fun x => pR (callA cfg K (n + 1)) 150 [.i .u64 (x : Nat)]) = (List.range 65).map fun x => some (.i .i64 (lenT x)) := by kernel_rfl
  have := congrArg (fun l => l[x]?) h
  simpa [List.getElem?_range (show x < 65 by omega)] using this
theorem c_len {K n x : Nat} (hn : 2 ≤ n) (hx : x ≤ 64) : pR (callA cfg K n) 117 [.i .u64 (x : Nat)] = some (.i .i64 (lenT x)) := by
  obtain ⟨n, rfl⟩ : ∃ m, n = m + 1 := ⟨n - 1, by omega⟩
  have hc := c_len64 (K := K) (n := n) (by omega) hx
  refine pr_of rfl ?_ rfl
  refine run_wp Tryz.func117 rfl (by simp [Tryz.f117]) ?_
  simp [hc]

theorem c_nan {K n : Nat} (hn : 1 ≤ n) (x : Int) : pR (callA cfg K n) 165 [.i .u64 x] = some (.b false) := by
  obtain ⟨n, rfl⟩ : ∃ m, n = m + 1 := ⟨n - 1, by omega⟩
  refine pr_of rfl ?_ rfl
  refine run_wp Tryz.func165 rfl (by simp [Tryz.f165]) ?_
  simp
theorem c_less {K n : Nat} (hn : 2 ≤ n) (x y : Int) : pR (callA cfg K n) 146 [.i .u64 x, .i .u64 y] = some (.b (decide (x < y))) := by
  obtain ⟨n, rfl⟩ : ∃ m, n = m + 1 := ⟨n - 1, by omega⟩
  have hc := fun x => c_nan (K := K) (n := n) (by omega) x
  refine pr_of rfl ?_ rfl
  refine run_wp Tryz.func146 rfl (by simp [Tryz.f146]) ?_
  simp [hc]

def numRows (l : List Nat) : List (List AV) := l.map fun n => [.i .u64 (n : Nat)]
@[simp] theorem numRows_len (l : List Nat) : (numRows l).length = l.length := by simp [numRows]
/-- Numbers that rise, as an array. -/
structure NumA (H : Hp) (k g : Nat) (l : List Nat) : Prop where
  at_ : lk H k = some (g, .arr 1 (numRows l))
  rise : l.Pairwise (· < ·)
  few : l.length ≤ 64
theorem NumA.get {H : Hp} {k g i : Nat} {l : List Nat} (h : NumA H k g l) (hi : i < l.length) : (numRows l)[i]? = some [.i .u64 ((l[i] : Nat) : Int)] := by simp [numRows, List.getElem?_eq_getElem hi]
theorem NumA.le {H : Hp} {k g i j : Nat} {l : List Nat} (h : NumA H k g l) (hij : i ≤ j) (hj : j < l.length) : ¬ l[j] < l[i] := by
  rcases Nat.lt_or_ge i j with h1 | h1
  · have := List.pairwise_iff_getElem.1 h.rise i j (by omega) hj h1
    omega
  · have : i = j := by omega
    subst this
    omega

theorem c_ord {K n : Nat} (hn : 3 ≤ n) {H : Hp} {N k g s a b : Nat} {l : List Nat} (h : NumA H k g l) (hab : a ≤ b) (hb : b < l.length) :
    Sp K n 178 [.rs k g 0 l.length 1, .i .i64 (a : Nat), .i .i64 (b : Nat), .ptr s 0 0] H N fun r H' N' => r = .tup [.i .i64 (a : Nat), .i .i64 (b : Nat)] ∧ H' = H ∧ N ≤ N' := by
  refine sp_cps fun Q hQ => ?_
  obtain ⟨n, rfl⟩ : ∃ m, n = m + 1 := ⟨n - 1, by omega⟩
  have hc := fun x y => c_less (K := K) (n := n) (by omega) x y
  have g1 := h.get hb
  have g2 := h.get (i := a) (by omega)
  have g3 := h.le hab hb
  have c1 : (a : Int) < l.length := by omega
  have c2 : (b : Int) < l.length := by omega
  have c3 : ¬ ((l[b] : Nat) : Int) < ((l[a] : Nat) : Int) := by omega
  refine sp_of rfl (run_wp Tryz.func178 rfl (by simp [Tryz.f178]) ?_)
  simp [h.at_, c1, c2, g1, g2, hc, c3, g3]
  refine ⟨⟨by kernel_rfl, dyn_quiet (by simp [quietE])⟩, ?_⟩
  exact hQ _ _ _ ⟨rfl, rfl, by omega⟩

theorem c_med {K n : Nat} (hn : 4 ≤ n) {H : Hp} {N k g s a b c : Nat} {l : List Nat} (h : NumA H k g l) (hab : a ≤ b) (hbc : b ≤ c) (hc : c < l.length) :
    Sp K n 164 [.rs k g 0 l.length 1, .i .i64 (a : Nat), .i .i64 (b : Nat), .i .i64 (c : Nat), .ptr s 0 0] H N fun r H' N' => r = .i .i64 (b : Nat) ∧ H' = H ∧ N ≤ N' := by
  refine sp_cps fun Q hQ => ?_
  obtain ⟨n, rfl⟩ : ∃ m, n = m + 1 := ⟨n - 1, by omega⟩
  refine sp_of rfl (run_wp Tryz.func164 rfl (by simp [Tryz.f164]) ?_)
  simp
  refine (c_ord (by omega) h hab (by omega)).cW ?_
  rintro _ _ n1 ⟨rfl, rfl, e1⟩
  simp
  refine (c_ord (by omega) h hbc hc).cW ?_
  rintro _ _ n2 ⟨rfl, rfl, e2⟩
  simp
  refine (c_ord (by omega) h hab (by omega)).cW ?_
  rintro _ _ n3 ⟨rfl, rfl, e3⟩
  simp
  exact hQ _ _ _ ⟨rfl, rfl, by omega⟩
theorem c_madj {K n : Nat} (hn : 5 ≤ n) {H : Hp} {N k g s a : Nat} {l : List Nat} (h : NumA H k g l) (ha : 1 ≤ a) (hb : a + 1 < l.length) :
    Sp K n 163 [.rs k g 0 l.length 1, .i .i64 (a : Nat), .ptr s 0 0] H N fun r H' N' => r = .i .i64 (a : Nat) ∧ H' = H ∧ N ≤ N' := by
  refine sp_cps fun Q hQ => ?_
  obtain ⟨n, rfl⟩ : ∃ m, n = m + 1 := ⟨n - 1, by omega⟩
  have hf := h.few
  have w1 : IntKind.i64.wrap ((a : Int) - 1) = ((a - 1 : Nat) : Int) := by rw [wrap_i64 (by omega) (by omega)]; omega
  obtain ⟨a1, ha1⟩ : ∃ a1, a1 = a + 1 := ⟨_, rfl⟩
  obtain ⟨a0, ha0⟩ : ∃ a0, a0 = a - 1 := ⟨_, rfl⟩
  have w2 : IntKind.i64.wrap ((a : Int) + 1) = (a1 : Nat) := by rw [wrap_i64 (by omega) (by omega)]; omega
  rw [← ha0] at w1
  refine sp_of rfl (run_wp Tryz.func163 rfl (by simp [Tryz.f163]) ?_)
  simp [w1, w2]
  refine (c_med (by omega) h (a := a0) (b := a) (c := a1) (by omega) (by omega) (by omega)).cW ?_
  rintro _ _ n1 ⟨rfl, rfl, e1⟩
  simp
  exact hQ _ _ _ ⟨rfl, rfl, by omega⟩

theorem NumA.keep {H H' : Hp} {k g : Nat} {l : List Nat} (h : NumA H k g l) (hk : lk H' k = lk H k) : NumA H' k g l := ⟨hk.trans h.at_, h.rise, h.few⟩
theorem c_piv {K n : Nat} (hn : 6 ≤ n) {H : Hp} {N k g : Nat} {l : List Nat} (h : NumA H k g l) (hk : k < N) (hl : 12 < l.length) :
    Sp K n 143 [.rs k g 0 l.length 1, .i .i64 0, .i .i64 (l.length : Nat)] H N fun r H' N' => (∃ p : Int, r = .tup [.i .i64 p, .i .i64 1]) ∧ N ≤ N' ∧ ∀ j, j < N → lk H' j = lk H j := by
  refine sp_cps fun Q hQ => ?_
  obtain ⟨n, rfl⟩ : ∃ m, n = m + 1 := ⟨n - 1, by omega⟩
  have hf := h.few
  obtain ⟨q, hq⟩ : ∃ q, q = l.length / 4 := ⟨_, rfl⟩
  obtain ⟨q2, hq2⟩ : ∃ q2, q2 = q * 2 := ⟨_, rfl⟩
  obtain ⟨q3, hq3⟩ : ∃ q3, q3 = q * 3 := ⟨_, rfl⟩
  have w0 : IntKind.i64.wrap ((l.length : Int) - 0) = (l.length : Nat) := by rw [wrap_i64 (by omega) (by omega)]; omega
  have w1 : IntKind.i64.wrap ((l.length : Int) / 4) = (q : Nat) := by rw [wrap_i64 (by omega) (by omega)]; omega
  have w2 : IntKind.i64.wrap (q : Int) = (q : Nat) := wrap_i64 (by omega) (by omega)
  have w3 : IntKind.i64.wrap ((q : Int) * 2) = (q2 : Nat) := by rw [wrap_i64 (by omega) (by omega)]; omega
  have w4 : IntKind.i64.wrap ((q : Int) * 3) = (q3 : Nat) := by rw [wrap_i64 (by omega) (by omega)]; omega
  have w5 : IntKind.i64.wrap (q2 : Int) = (q2 : Nat) := wrap_i64 (by omega) (by omega)
  have w6 : IntKind.i64.wrap (q3 : Int) = (q3 : Nat) := wrap_i64 (by omega) (by omega)
  have w7 : IntKind.i64.wrap (l.length : Int) = (l.length : Nat) := wrap_i64 (by omega) (by omega)
  have c8 : (8 : Int) ≤ l.length := by omega
  refine sp_of rfl (run_wp Tryz.func143 rfl (by simp [Tryz.f143]) ?_)
  have h1 : NumA (up H (N + 6) (0, .cells [.i .i64 0])) k g l := h.keep (by rw [lk_set, if_neg (by omega)])
  have h2 : lk (up H (N + 6) (0, .cells [.i .i64 0])) (N + 6) = some (0, .cells [.i .i64 0]) := by rw [lk_set, if_pos rfl]
  have low : ∀ j, j < N → lk (up H (N + 6) (0, .cells [.i .i64 0])) j = lk H j := fun j hj => by rw [lk_set, if_neg (by omega)]
  by_cases c50 : (50 : Int) ≤ l.length
  · simp [w0, w1, w2, w3, w4, w5, w6, w7, c8, c50]
    refine (c_madj (by omega) h1 (a := q) (by omega) (by omega)).cW ?_
    rintro _ _ n1 ⟨rfl, rfl, e1⟩
    simp
    refine (c_madj (by omega) h1 (a := q2) (by omega) (by omega)).cW ?_
    rintro _ _ n2 ⟨rfl, rfl, e2⟩
    simp
    refine (c_madj (by omega) h1 (a := q3) (by omega) (by omega)).cW ?_
    rintro _ _ n3 ⟨rfl, rfl, e3⟩
    simp
    refine (c_med (by omega) h1 (a := q) (b := q2) (c := q3) (by omega) (by omega) (by omega)).cW ?_
    rintro _ _ n4 ⟨rfl, rfl, e4⟩
    simp [h2]
    exact hQ _ _ _ ⟨⟨_, rfl⟩, by omega, low⟩
  · simp [w0, w1, w2, w3, w4, w5, w6, w7, c8, c50]
    refine (c_med (by omega) h1 (a := q) (b := q2) (c := q3) (by omega) (by omega) (by omega)).cW ?_
    rintro _ _ n4 ⟨rfl, rfl, e4⟩
    simp [h2]
    exact hQ _ _ _ ⟨⟨_, rfl⟩, by omega, low⟩

theorem c_part {K n : Nat} (hK : big K) (hn : 3 ≤ n) {H : Hp} {N k g : Nat} {l : List Nat} (h : NumA H k g l) (hl : 1 ≤ l.length) :
    Sp K n 145 [.rs k g 0 l.length 1, .i .i64 0, .i .i64 (l.length : Nat)] H N fun r H' N' => r = .b true ∧ H' = H ∧ N ≤ N' := by
  refine sp_cps fun Q hQ => ?_
  obtain ⟨n, rfl⟩ : ∃ m, n = m + 1 := ⟨n - 1, by omega⟩
  have hf := h.few
  have hc := fun x y => c_less (K := K) (n := n) (by omega) x y
  refine sp_of rfl (run_wp Tryz.func145 rfl (by simp [Tryz.f145]) ?_)
  simp [wrap1]
  refine loop_wp (ι := Unit) (fun _ => { env := [(0, .rs k g 0 l.length 1), (1, .i .i64 0), (2, .i .i64 (l.length : Nat)), (7, .i .i64 1), (8, .i .i64 0)], loc := [], hp := H, nx := N + 1 + 3 + 1 }) (fun _ => 0) (fun _ => True) () rfl trivial (by unfold big at hK; omega) ?_
  rintro Next _ _ hnext
  simp
  refine loop_wp (ι := Nat × Nat × List (Nat × AV)) (fun i => { env := (0, .rs k g 0 l.length 1) :: (1, .i .i64 0) :: (2, .i .i64 (l.length : Nat)) :: (7, .i .i64 (i.1 : Nat)) :: (8, .i .i64 0) :: i.2.2, loc := [], hp := H, nx := i.2.1 }) (fun i => l.length - i.1) (fun i => 1 ≤ i.1 ∧ i.1 ≤ l.length ∧ N ≤ i.2.1 ∧ (i.2.2 = [(14, .b true)] ∨ i.2.2 = [])) (1, N + 1 + 3 + 1 + 2, [(14, .b true)]) rfl ⟨by simp, hl, by simp only; omega, .inl rfl⟩ (by simp; unfold big at hK; omega) ?_
  rintro Next2 ⟨i, M, e⟩ ⟨hi1, hi2, hM, he⟩ hnext2
  simp only at hi1 hi2 hM he hnext2 ⊢
  by_cases hlt : i < l.length
  · have c1 : (i : Int) < l.length := by omega
    obtain ⟨i0, hi0⟩ : ∃ i0, i0 = i - 1 := ⟨_, rfl⟩
    have w1 : IntKind.i64.wrap ((i : Int) - 1) = (i0 : Nat) := by rw [wrap_i64 (by omega) (by omega)]; omega
    have w2 : IntKind.i64.wrap ((i : Int) + 1) = ((i + 1 : Nat) : Int) := by rw [wrap_i64 (by omega) (by omega)]; omega
    have c2 : (i0 : Int) < l.length := by omega
    have g1 := h.get hlt
    have g2 := h.get (i := i0) (by omega)
    have g3 := h.le (i := i0) (j := i) (by omega) hlt
    have key := fun M => hnext2 (i + 1, M, []) (by simp only; omega)
    simp only at key
    rcases he with rfl | rfl
    all_goals
      simp [c1, c2, w1, w2, h.at_, g1, g2, g3, hc]
      refine ⟨⟨by kernel_rfl, dyn_quiet (by simp [quietE])⟩, ?_⟩
      exact key _ ⟨by omega, by omega, by omega, .inr trivial⟩
  · obtain rfl : i = l.length := by omega
    rcases he with rfl | rfl
    all_goals
      simp
      refine ⟨⟨by kernel_rfl, dyn_quiet (by simp [quietE])⟩, ?_⟩
      exact hQ _ _ _ ⟨rfl, rfl, by omega⟩

theorem c_ins {K n : Nat} (hK : big K) (hn : 3 ≤ n) {H : Hp} {N k g : Nat} {l : List Nat} (h : NumA H k g l) :
    Sp K n 140 [.rs k g 0 l.length 1, .i .i64 0, .i .i64 (l.length : Nat)] H N fun r H' N' => r = .tup [] ∧ H' = H ∧ N ≤ N' := by
  refine sp_cps fun Q hQ => ?_
  obtain ⟨n, rfl⟩ : ∃ m, n = m + 1 := ⟨n - 1, by omega⟩
  have hf := h.few
  have hc := fun x y => c_less (K := K) (n := n) (by omega) x y
  refine sp_of rfl (run_wp Tryz.func140 rfl (by simp [Tryz.f140]) ?_)
  simp [wrap1]
  refine loop_wp (ι := Nat × Nat) (fun i => { env := [(0, .rs k g 0 l.length 1), (1, .i .i64 0), (2, .i .i64 (l.length : Nat)), (6, .i .i64 (i.1 : Nat))], loc := [], hp := H, nx := i.2 }) (fun i => l.length - i.1) (fun i => 1 ≤ i.1 ∧ N ≤ i.2) (1, _) rfl ⟨by simp, by simp only; omega⟩ (by simp; unfold big at hK; omega) ?_
  rintro Next ⟨i, M⟩ ⟨hi1, hM⟩ hnext
  simp only at hi1 hM hnext ⊢
  by_cases hlt : i < l.length
  · have c1 : (i : Int) < l.length := by omega
    obtain ⟨i0, hi0⟩ : ∃ i0, i0 = i - 1 := ⟨_, rfl⟩
    have w1 : IntKind.i64.wrap ((i : Int) - 1) = (i0 : Nat) := by rw [wrap_i64 (by omega) (by omega)]; omega
    have w2 : IntKind.i64.wrap ((i : Int) + 1) = ((i + 1 : Nat) : Int) := by rw [wrap_i64 (by omega) (by omega)]; omega
    have c2 : (i0 : Int) < l.length := by omega
    have c3 : 0 < i := by omega
    have g1 := h.get hlt
    have g2 := h.get (i := i0) (by omega)
    have g3 := h.le (i := i0) (j := i) (by omega) hlt
    have key := fun M => hnext (i + 1, M) (by simp only; omega)
    simp only at key
    simp [c1]
    refine loop_wp (ι := Unit) (fun _ => { env := [(0, .rs k g 0 l.length 1), (1, .i .i64 0), (2, .i .i64 (l.length : Nat)), (6, .i .i64 (i : Nat)), (7, .i .i64 (i : Nat))], loc := [], hp := H, nx := M + 3 + 2 }) (fun _ => 0) (fun _ => True) () rfl trivial (by unfold big at hK; omega) ?_
    rintro Next2 _ _ _
    simp [c1, c2, c3, w1, w2, h.at_, g1, g2, g3, hc]
    refine ⟨⟨by kernel_rfl, dyn_quiet (by simp [quietE])⟩, ?_⟩
    exact key _ ⟨by omega, by omega⟩
  · have c1 : ¬ (i : Int) < l.length := by omega
    simp [c1]
    exact hQ _ _ _ ⟨rfl, rfl, by omega⟩

theorem c_pdq {K n : Nat} (hK : big K) (hn : 7 ≤ n) {H : Hp} {N k g : Nat} {l : List Nat} {v : Int} (h : NumA H k g l) (hk : k < N) (hv : 12 < l.length → ¬ v = 0) :
    Sp K n 116 [.rs k g 0 l.length 1, .i .i64 0, .i .i64 (l.length : Nat), .i .i64 v] H N fun r H' N' => r = .tup [] ∧ N ≤ N' ∧ ∀ j, j < N → lk H' j = lk H j := by
  refine sp_cps fun Q hQ => ?_
  obtain ⟨n, rfl⟩ : ∃ m, n = m + 1 := ⟨n - 1, by omega⟩
  have hf := h.few
  refine sp_of rfl (run_wp Tryz.func116 rfl (by simp [Tryz.f116]) ?_)
  have w0 : IntKind.i64.wrap ((l.length : Int) - 0) = (l.length : Nat) := by rw [wrap_i64 (by omega) (by omega)]; omega
  have w7 : IntKind.i64.wrap (l.length : Int) = (l.length : Nat) := wrap_i64 (by omega) (by omega)
  simp
  refine loop_wp (ι := Unit) (fun _ => { env := [(0, .rs k g 0 l.length 1), (1, .i .i64 0), (2, .i .i64 (l.length : Nat)), (3, .i .i64 v), (8, .b true), (9, .b true)], loc := [], hp := H, nx := N + 1 + 1 }) (fun _ => 0) (fun _ => True) () rfl trivial (by unfold big at hK; omega) ?_
  rintro Next _ _ hnext
  by_cases c12 : (l.length : Int) ≤ 12
  · simp [w0, w7, c12]
    refine (c_ins hK (by omega) h).cW ?_
    rintro _ _ n1 ⟨rfl, rfl, e1⟩
    simp
    exact hQ _ _ _ ⟨rfl, by omega, fun _ _ => rfl⟩
  · have hv' : (v == 0) = false := by simpa using hv (by omega)
    simp [w0, w7, c12, hv']
    refine (c_piv (by omega) h (by omega) (by omega)).cW ?_
    rintro _ H1 n1 ⟨⟨p, rfl⟩, e1, e2⟩
    simp
    refine (c_part hK (by omega) (h.keep (e2 k (by omega))) (by omega)).cW ?_
    rintro _ _ n2 ⟨rfl, rfl, e3⟩
    simp
    exact hQ _ _ _ ⟨rfl, by omega, fun j hj => e2 j (by omega)⟩

theorem c_sort {K n : Nat} (hK : big K) (hn : 8 ≤ n) {H : Hp} {N k g : Nat} {l : List Nat} (h : NumA H k g l) (hk : k < N) :
    Sp K n 73 [.rs k g 0 l.length 1] H N fun r H' N' => r = .tup [] ∧ N ≤ N' ∧ ∀ j, j < N → lk H' j = lk H j := by
  refine sp_cps fun Q hQ => ?_
  obtain ⟨n, rfl⟩ : ∃ m, n = m + 1 := ⟨n - 1, by omega⟩
  have hf := h.few
  have hc := c_len (K := K) (n := n) (by omega) hf
  have hv : 12 < l.length → ¬ lenT l.length = 0 := fun h12 => by
    unfold lenT
    rw [if_neg (by omega)]
    omega
  have w1 : IntKind.u64.wrap (l.length : Int) = (l.length : Nat) := wrap_u64' (by omega)
  refine sp_of rfl (run_wp Tryz.func73 rfl (by simp [Tryz.f73]) ?_)
  simp [lenA_sl, w1, hc]
  refine (c_pdq hK (by omega) h (by omega) hv).cW ?_
  rintro _ H1 n1 ⟨rfl, e1, e2⟩
  simp
  exact hQ _ _ _ ⟨rfl, by omega, fun j hj => e2 j (by omega)⟩
theorem c_ins0 {K n : Nat} (hK : big K) (hn : 1 ≤ n) {N : Nat} : Sp K n 140 [.vs true 0 [], .i .i64 0, .i .i64 0] [] N fun r H' N' => r = .tup [] ∧ N ≤ N' ∧ H' = [] := by
  refine sp_cps fun Q hQ => ?_
  obtain ⟨n, rfl⟩ : ∃ m, n = m + 1 := ⟨n - 1, by omega⟩
  refine sp_of rfl (run_wp Tryz.func140 rfl (by simp [Tryz.f140]) ?_)
  simp [wrap1]
  refine loop_wp (ι := Unit) (fun _ => { env := [(0, .vs true 0 []), (1, .i .i64 0), (2, .i .i64 0), (6, .i .i64 1)], loc := [], hp := [], nx := N + 3 }) (fun _ => 0) (fun _ => True) () rfl trivial (by unfold big at hK; omega) ?_
  rintro Next _ _ _
  simp
  exact hQ _ _ _ ⟨rfl, by omega, rfl⟩
theorem c_pdq0 {K n : Nat} (hK : big K) (hn : 2 ≤ n) {N : Nat} {v : Int} : Sp K n 116 [.vs true 0 [], .i .i64 0, .i .i64 0, .i .i64 v] [] N fun r H' N' => r = .tup [] ∧ N ≤ N' ∧ H' = [] := by
  refine sp_cps fun Q hQ => ?_
  obtain ⟨n, rfl⟩ : ∃ m, n = m + 1 := ⟨n - 1, by omega⟩
  have w0 : IntKind.i64.wrap 0 = 0 := wrap_i64 (by omega) (by omega)
  refine sp_of rfl (run_wp Tryz.func116 rfl (by simp [Tryz.f116]) ?_)
  simp
  refine loop_wp (ι := Unit) (fun _ => { env := [(0, .vs true 0 []), (1, .i .i64 0), (2, .i .i64 0), (3, .i .i64 v), (8, .b true), (9, .b true)], loc := [], hp := [], nx := N + 1 + 1 }) (fun _ => 0) (fun _ => True) () rfl trivial (by unfold big at hK; omega) ?_
  rintro Next _ _ _
  simp [w0]
  refine (c_ins0 hK (by omega)).cW ?_
  rintro _ _ n1 ⟨rfl, e1, rfl⟩
  simp
  exact hQ _ _ _ ⟨rfl, by omega, rfl⟩
theorem c_sort0 {K n : Nat} (hK : big K) (hn : 8 ≤ n) {N : Nat} : Sp K n 73 [.vs true 0 []] [] N fun r H' N' => r = .tup [] ∧ N ≤ N' ∧ H' = [] := by
  refine sp_cps fun Q hQ => ?_
  obtain ⟨n, rfl⟩ : ∃ m, n = m + 1 := ⟨n - 1, by omega⟩
  have hc := c_len (K := K) (n := n) (x := 0) (by omega) (by omega)
  have w1 : IntKind.u64.wrap 0 = 0 := wrap_u64' (m := 0) (by omega)
  refine sp_of rfl (run_wp Tryz.func73 rfl (by simp [Tryz.f73]) ?_)
  simp at hc
  simp [lenA_sl, w1, hc]
  refine (c_pdq0 hK (by omega)).cW ?_
  rintro _ _ n1 ⟨rfl, e1, rfl⟩
  simp
  exact hQ _ _ _ ⟨rfl, by omega, rfl⟩

end Ab
end Go.Proofs.YtmbbnoipoifhhaaGreatDoor
