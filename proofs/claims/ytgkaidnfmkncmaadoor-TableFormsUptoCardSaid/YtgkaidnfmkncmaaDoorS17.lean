/-
  DERIVED. table.own: a form in memory of its own.
  Conditions: sizes below a row's limit.
-/
import Derived.Test.YtgkaidnfmkncmaaDoorS16
set_option linter.all false
set_option maxHeartbeats 4000000
namespace Go.Proofs.YtgkaidnfmkncmaaDoor
namespace Ab
open Go.Lib
set_option maxRecDepth 100000
set_option maxHeartbeats 4000000
attribute [local simp] rowsOf mmA

/-- What a copy of rows comes to. -/
def CloneOk (call : CallT) (f sz : Nat) : Prop := ∀ (hp : Hp) (nx n g : Nat) (rows : List (List AV)), lk hp n = some (g, .arr sz rows) → n < nx → rows.length ≤ 2 ^ 20 →
  ∃ n' g' hp' nx', call f [.rs n g 0 rows.length sz] hp nx = some (.rs n' g' 0 rows.length sz, hp', nx') ∧ nx ≤ n' ∧ n' < nx' ∧ lk hp' n' = some (g', .arr sz rows) ∧ ∀ j, j < nx → lk hp' j = lk hp j

theorem set_mid {α : Type} {a b : List α} {i : Nat} (x : α) (h : a.length = i) (hb : i < b.length) : (a ++ b.drop i).set i x = (a ++ [x]) ++ b.drop (i + 1) := by
  subst h
  rw [List.set_append_right _ _ (Nat.le_refl _), Nat.sub_self, List.drop_eq_getElem_cons hb, List.set_cons_zero, List.append_assoc]
  rfl

theorem loop27 (call : CallT) (k : Nat) (h39 : CloneOk call 39 1) (keys : List Key) (m : Nat) (okk : keys.length < m) (okc : ∀ x ∈ keys, x.cs.length < m) (hm : m ≤ 2 ^ 20) (hk : m ≤ k) (n1 n2 kc kk gk lo hi kc0 kk0 nx0 : Nat) (w0 w1 w3 w4 : AV) (z2 : List AV) (hp0 : Hp) (old : List (List AV))
    (h1 : hi ≤ kk) (h2 : kk < nx0) (h0 : kc < nx0) (hold0 : KRows hp0 lo hi kc0 kk0 old keys) (h4 : lk hp0 kk = some (gk, .arr 3 old)) {Q : Ex × St → Prop}
    (hQ : ∀ hp nx rows, nx0 ≤ nx → KRows hp nx0 nx kc kk rows keys → lk hp kk = some (gk, .arr 3 rows) → (∀ j, j < nx0 → j ≠ kk → lk hp j = lk hp0 j) →
      Q (.exit 0, { env := [(1, .lp 1 n1 0), (2, .lp 2 n2 0), (14, .i .i64 (keys.length : Nat)), (15, .i .i64 (keys.length : Nat)), (16, .b false)], loc := [(1, n1, .cells [w0, w1, .rs kk gk 0 keys.length 3, w3, w4]), (2, n2, .cells z2)], hp := hp, nx := nx })) :
    wp (loopK cfg call k 27 (loopOf Tryd.f27 0) { env := [(1, .lp 1 n1 0), (2, .lp 2 n2 0), (14, .i .i64 (keys.length : Nat)), (15, .i .i64 (0 : Nat))], loc := [(1, n1, .cells [w0, w1, .rs kk gk 0 keys.length 3, w3, w4]), (2, n2, .cells z2)], hp := hp0, nx := nx0 }) Q := by
  refine loop_wp (ι := Nat × Nat × Hp × List (List AV)) (fun i => { env := [(1, .lp 1 n1 0), (2, .lp 2 n2 0), (14, .i .i64 (keys.length : Nat)), (15, .i .i64 (i.1 : Nat))], loc := [(1, n1, .cells [w0, w1, .rs kk gk 0 keys.length 3, w3, w4]), (2, n2, .cells z2)], hp := i.2.2.1, nx := i.2.1 }) (fun i => keys.length - i.1)
    (fun i => i.1 ≤ keys.length ∧ nx0 ≤ i.2.1 ∧ KRows i.2.2.1 nx0 i.2.1 kc kk i.2.2.2 (keys.take i.1) ∧ lk i.2.2.1 kk = some (gk, .arr 3 (i.2.2.2 ++ old.drop i.1)) ∧ ∀ j, j < nx0 → j ≠ kk → lk i.2.2.1 j = lk hp0 j) (0, nx0, hp0, []) rfl ⟨Nat.zero_le _, Nat.le_refl _, ⟨rfl, fun i r key hr => by simp at hr⟩, h4, fun j _ _ => rfl⟩ (by simp only; omega) ?_
  rintro Next ⟨i, nx, hp, new⟩ ⟨hi0, hnx, hrows, hkk, hold⟩ hnext
  simp only at hi0 hnx hrows hkk hold hnext ⊢
  have hol : old.length = keys.length := hold0.1
  by_cases hi : i < keys.length
  · have c1 : (i : Int) < keys.length := by omega
    have c2 : (0 : Int) ≤ i := by omega
    have c3 : IntKind.i64.wrap ((i : Int) + 1) = i + 1 := wrap_i64 (by omega) (by omega)
    have hnl : new.length = i := by rw [hrows.1]; simp; omega
    have hio : i < old.length := by omega
    obtain ⟨x, hx⟩ : ∃ x, keys[i] = x := ⟨_, rfl⟩
    have hxl : x.cs.length < m := by rw [← hx]; exact okc _ (List.getElem_mem hi)
    obtain ⟨a, g, hr, hla, hlo, hhi, hac, hak⟩ := hold0.2 i old[i] x (List.getElem?_eq_getElem hio) (by rw [List.getElem?_eq_getElem hi, hx])
    obtain ⟨xn, xz, xcs, xu⟩ := x
    simp only at hr hla hxl
    obtain ⟨rows, hrs⟩ : ∃ rows, new ++ old.drop i = rows := ⟨_, rfl⟩
    have hri : rows[i]? = some [.s xn, .rs a g 0 xcs.length 1, .b xu] := by
      rw [← hrs, List.getElem?_append_right (by omega), hnl, Nat.sub_self, List.drop_eq_getElem_cons hio, hr]; rfl
    have hrlen : rows.length = keys.length := by rw [← hrs]; simp; omega
    have hril : i < rows.length := by omega
    have hri' : rows[i] = [.s xn, .rs a g 0 xcs.length 1, .b xu] := by
      rw [List.getElem?_eq_getElem hril] at hri; injection hri
    rw [hrs] at hkk
    have hla' : lk hp a = some (g, .arr 1 (ints xcs)) := by rw [hold a (by omega) (by omega)]; exact hla
    have hcl := fun c => h39 hp (nx + c) a g (ints xcs) hla' (by omega) (by rw [ints_len]; omega)
    rw [ints_len] at hcl
    have f1 : ∀ c, ¬ kk = nx + c := fun c => by omega
    obtain ⟨n', g', hp', nx', q1, q2, q3, q4, q5⟩ := hcl 16
    have q6 : lk hp' kk = some (gk, .arr 3 rows) := by rw [q5 kk (by omega)]; exact hkk
    simp [loopOf, loopsIn, Tryd.f27, Nat.add_assoc, lk_set, c1, c2, c3, hi, f1, hkk, hri, hri', hrlen, q1, q6]
    refine ⟨⟨by kernel_rfl, by kernel_rfl⟩, ?_⟩
    refine hnext (i + 1, _, _, new ++ [[.s xn, .rs n' g' 0 xcs.length 1, .b xu]]) (by simp only; omega) ⟨hi, by simp only; omega, ?_, ?_, ?_⟩
    · simp only
      rw [← take_next hi, hx]
      have hsame : ∀ j, nx0 ≤ j → j < nx → j ≠ kc → j ≠ kk → lk (up hp' kk (gk, .arr 3 (rows.set i [.s xn, .rs n' g' 0 xcs.length 1, .b xu]))) j = lk hp j := by
        intro j _ h6 _ h8
        rw [lk_set, if_neg h8, q5 j (by omega)]
      refine KRows.snoc (hrows.mono (Nat.le_refl _) (by omega) hsame) ⟨n', g', rfl, ?_, by omega, by omega, by omega, by omega⟩
      rw [lk_set, if_neg (by omega)]
      exact q4
    · simp only
      rw [lk_set, if_pos rfl, ← hrs, set_mid _ hnl hio]
    · intro j h5 h6
      simp only
      rw [lk_set, if_neg h6, q5 j (by omega)]
      exact hold j h5 h6
  · obtain rfl : i = keys.length := by omega
    have hr := hrows
    rw [List.take_of_length_le (Nat.le_refl _)] at hr
    rw [← hol, List.drop_of_length_le (Nat.le_refl _), List.append_nil] at hkk
    simp [loopOf, loopsIn, Tryd.f27]
    exact hQ hp _ new (by omega) (hr.mono (Nat.le_refl _) (by omega) fun j _ _ _ _ => rfl) hkk hold

def Tab.own (t : Tab) : Tab := { t with part := if -1 > t.part then -1 else t.part }

theorem run27 (call : CallT) (k : Nat) (h37 : CloneOk call 37 4) (h38 : CloneOk call 38 3) (h39 : CloneOk call 39 1) (t : Tab) (m : Nat) (ok : t.Ok m) (hm : m ≤ 2 ^ 20) (hk : m ≤ k) (hp : Hp) (nx lo hi : Nat) (v : AV) (hv : Holds hp lo hi v t) (hnx : hi ≤ nx) {Q : AV → Hp → Nat → Prop}
    (hQ : ∀ v' hp' nx', nx ≤ nx' → Holds hp' nx nx' v' t.own → (∀ j, j < nx → lk hp' j = lk hp j) → Q v' hp' nx') : Ends cfg call k 27 [v] hp nx Q := by
  have okl := ok.cl
  have okk := ok.kl
  obtain ⟨kc, gc, kk, gk, rows, e1, e2, e3, e4, e5, e6, e7, e8, e9⟩ := hv.h
  subst e1
  have hrl := e4.1
  refine run_wp Tryd.func27 rfl (by simp [Tryd.f27]) ?_
  have hc1 := fun c => h37 hp (nx + c) kc gc (t.cols.map Col.row) e2 (by omega) (by simp; omega)
  simp only [List.length_map] at hc1
  obtain ⟨n1, g1, hp1, nx1, q1, q2, q3, q4, q5⟩ := hc1 7
  have e3' : lk hp1 kk = some (gk, .arr 3 rows) := by rw [q5 kk (by omega)]; exact e3
  have hc2 := fun c => h38 hp1 (nx1 + c) kk gk rows e3' (by omega) (by omega)
  rw [hrl] at hc2
  obtain ⟨n2, g2, hp2, nx2, r1, r2, r3, r4, r5⟩ := hc2 5
  simp [Nat.add_assoc, q1, r1]
  have hrk : KRows hp2 lo hi kc kk rows t.keys := e4.mono (Nat.le_refl _) (Nat.le_refl _) fun j _ h6 _ _ => by rw [r5 j (by omega), q5 j (by omega)]
  refine loop27 call k h39 t.keys m okk (fun x hx => (ok.k x hx).c) hm hk nx (nx + 1) n1 n2 g2 lo hi kc kk (nx2 + 4) _ _ _ _ _ hp2 rows (by omega) (by omega) (by omega) hrk r4 ?_
  intro hp3 nx3 new s1 s2 s3 s4
  have hfin : ∀ p nx', nx3 ≤ nx' → p = (if -1 > t.part then -1 else t.part) → Q (.agg [.s t.n, .rs n1 g1 0 t.cols.length 4, .rs n2 g2 0 t.keys.length 3, .i .i64 p, .i .i64 t.most]) hp3 nx' := by
    rintro _ nx' hx rfl
    refine hQ _ _ _ (by omega) ⟨n1, g1, n2, g2, new, rfl, ?_, s3, s2.mono (by omega) (by omega) fun _ _ _ _ _ => rfl, by omega, by omega, by omega, by omega, by omega⟩ ?_
    · rw [s4 n1 (by omega) (by omega), r5 n1 (by omega)]; exact q4
    · intro j hj
      rw [s4 j (by omega) (by omega), r5 j (by omega), q5 j (by omega)]
  by_cases hpt : -1 > t.part
  · simp [hpt]
    exact hfin _ _ (by omega) (by rw [if_pos hpt])
  · simp [hpt]
    exact hfin _ _ (by omega) (by rw [if_neg hpt])

end Ab
end Go.Proofs.YtgkaidnfmkncmaaDoor
