/-
  DERIVED. The log's bytes: hash, number, bytes.
  Conditions: enough rounds, enough depth.
-/
import Derived.Test.YtmbbnoipoifhhaaGreatDoorV0
import Derived.Test.YtmbbnoipoifhhaaGreatDoorG0
set_option linter.all false
set_option maxHeartbeats 4000000
namespace Go.Proofs.YtmbbnoipoifhhaaGreatDoor
namespace Ab
set_option maxRecDepth 100000
set_option maxHeartbeats 8000000
set_option linter.all false
attribute [local simp] wp_regW opsW_nil opsW_cons opsK_eq regK_no regK_draw oW_n oW_h oW_r oW_pn convA appendA appRow newsA rowsSz rowsOf isIntD makeSliceA elemOf rowsBuilt eqA eq1

theorem c_hash {K n : Nat} (hK : big K) (hn : 1 ≤ n) (z : Bool) (b : Bs) (hb : b.length ≤ 2 ^ 24) : pR (callA cfg K n) 151 [.vs z 1 (byteRows b)] = some (.i .u64 (fnv b : Nat)) := by
  obtain ⟨n, rfl⟩ : ∃ m, n = m + 1 := ⟨n - 1, by omega⟩
  refine pr_of rfl ?_ rfl
  refine run_wp Tryz.func151 rfl (by simp [Tryz.f151]) ?_
  simp [lenA_sl]
  refine loop_wp (ι := Nat × Nat) (fun i => { env := [(3, .i .u64 (((b.take i.1).foldl fnv1 14695981039346656037 : Nat) : Int)), (6, .vs z 1 (byteRows b)), (7, .i .i64 (b.length : Nat)), (8, .i .i64 (i.1 : Nat))], loc := [], hp := [], nx := i.2 }) (fun i => b.length - i.1)
    (fun i => i.1 ≤ b.length) (0, 5) rfl (Nat.zero_le _) (by simp; unfold big at hK; omega) ?_
  rintro Next ⟨i, nx⟩ hi hnext
  simp only at hi hnext ⊢
  by_cases hlt : i < b.length
  · have c1 : (i : Int) < b.length := by omega
    have hx := byteRows_get hlt
    have c3 : IntKind.i64.wrap ((i : Int) + 1) = ((i + 1 : Nat) : Int) := by rw [wrap_i64 (by omega) (by omega)]; omega
    have hs : (b.take (i + 1)).foldl fnv1 14695981039346656037 = fnv1 ((b.take i).foldl fnv1 14695981039346656037) b[i] := by
      rw [List.take_succ_eq_append_getElem hlt, List.foldl_append, List.foldl_cons, List.foldl_nil]
    have hl := fold_lt (b.take i) 14695981039346656037 (by decide)
    have key := fun N => hnext (i + 1, N) (by simp only; omega) hlt
    simp only [hs] at key
    generalize (b.take i).foldl fnv1 14695981039346656037 = h at *
    have st := hash_step (x := b[i]) hl
    simp [c1, hx, c3, st]
    exact key _
  · obtain rfl : i = b.length := by omega
    simp
    rfl

theorem c_Hash {K n : Nat} (hK : big K) (hn : 2 ≤ n) (z : Bool) (b : Bs) (hb : b.length ≤ 2 ^ 24) : pR (callA cfg K n) 119 [.vs z 1 (byteRows b)] = some (.i .u64 (fnv b : Nat)) := by
  obtain ⟨n, rfl⟩ : ∃ m, n = m + 1 := ⟨n - 1, by omega⟩
  have hc := c_hash (n := n) hK (by omega) z b hb
  refine pr_of rfl ?_ rfl
  refine run_wp Tryz.func119 rfl (by simp [Tryz.f119]) ?_
  simp [hc]

theorem c_number {K n : Nat} (hK : big K) (hn : 1 ≤ n) (z : Bool) (b : Bs) (hb : b.length ≤ 7) : pR (callA cfg K n) 118 [.vs z 1 (byteRows b)] = some (.i .u64 (numB b : Nat)) := by
  obtain ⟨n, rfl⟩ : ∃ m, n = m + 1 := ⟨n - 1, by omega⟩
  refine pr_of rfl ?_ rfl
  refine run_wp Tryz.func118 rfl (by simp [Tryz.f118]) ?_
  simp [lenA_sl]
  refine loop_wp (ι := Nat × Nat) (fun i => { env := [(3, .i .u64 ((numB (b.take i.1) : Nat) : Int)), (6, .vs z 1 (byteRows b)), (7, .i .i64 (b.length : Nat)), (8, .i .i64 (i.1 : Nat))], loc := [], hp := [], nx := i.2 }) (fun i => b.length - i.1)
    (fun i => i.1 ≤ b.length) (0, 5) rfl (Nat.zero_le _) (by simp; unfold big at hK; omega) ?_
  rintro Next ⟨i, nx⟩ hi hnext
  simp only at hi hnext ⊢
  by_cases hlt : i < b.length
  · have c1 : (i : Int) < b.length := by omega
    have hx := byteRows_get hlt
    have c3 : IntKind.i64.wrap ((i : Int) + 1) = ((i + 1 : Nat) : Int) := by rw [wrap_i64 (by omega) (by omega)]; omega
    have hl := numB_lt (b.take i)
    rw [List.length_take, Nat.min_eq_left hi] at hl
    have hl2 : numB (b.take i) * 256 + 256 ≤ 18446744073709551616 := by
      have : (256 : Nat) ^ i ≤ 256 ^ 6 := Nat.pow_le_pow_right (by omega) (by omega)
      rw [show (256 : Nat) ^ 6 = 281474976710656 from rfl] at this
      omega
    have key := fun N => hnext (i + 1, N) (by simp only; omega) hlt
    simp only [numB_take hlt] at key
    generalize numB (b.take i) = h at *
    have st := num_step (x := b[i]) hl2
    simp [c1, hx, c3, st]
    exact key _
  · obtain rfl : i = b.length := by omega
    simp

/-- A new row of bytes alone. -/
def NewB (nx : Nat) (b : Bs) (r : AV) (hp' : Hp) (nx' : Nat) : Prop := ∃ a, r = .rs a 0 0 b.length 1 ∧ hp' = [(a, (0, .arr 1 (byteRows b)))] ∧ nx ≤ a ∧ a < nx'
theorem c_bytes {K n : Nat} (hK : big K) (hn : 1 ≤ n) (k x : Nat) (hk : k ≤ 8) (nx : Nat) : Sp K n 77 [.i .u64 (x : Nat), .i .i64 (k : Nat)] [] nx (NewB nx (be k x)) := by
  refine sp_cps fun Q hQ => ?_
  obtain ⟨n, rfl⟩ : ∃ m, n = m + 1 := ⟨n - 1, by omega⟩
  refine sp_of rfl (run_wp Tryz.func77 rfl (by simp [Tryz.f77]) ?_)
  have d1 : k * 2 ≤ 68719476736 := by omega
  simp [lenA_sl, mostB, d1]
  refine loop_wp (ι := Nat × Nat) (fun i => { env := [(0, .i .u64 (x : Nat)), (1, .i .i64 (k : Nat)), (5, .rs (nx + 2) 0 0 k 1), (10, .i .i64 (k : Nat)), (11, .i .i64 (i.1 : Nat))], loc := [], hp := [(nx + 2, (0, .arr 1 (byteRows (beP k x i.1))))], nx := i.2 }) (fun i => k - i.1)
    (fun i => i.1 ≤ k ∧ nx + 2 < i.2) (0, _) (by simp only [beP_none, byteRows_rep]; rfl) ⟨Nat.zero_le _, by simp only; omega⟩ (by simp; unfold big at hK; omega) ?_
  rintro Next ⟨i, N⟩ ⟨hi, hN⟩ hnext
  simp only at hi hN hnext ⊢
  by_cases hlt : i < k
  · have c1 : (i : Int) < k := by omega
    have c3 : IntKind.i64.wrap ((i : Int) + 1) = ((i + 1 : Nat) : Int) := by rw [wrap_i64 (by omega) (by omega)]; omega
    have w1 : IntKind.i64.wrap ((k : Int) - 1) = (k : Int) - 1 := wrap_i64 (by omega) (by omega)
    have w2 : IntKind.i64.wrap ((k : Int) - 1 - i) = (k : Int) - 1 - i := wrap_i64 (by omega) (by omega)
    have w3 : IntKind.i64.wrap (8 * ((k : Int) - 1 - i)) = 8 * ((k : Int) - 1 - i) := wrap_i64 (by omega) (by omega)
    have p1 : ¬ 8 * ((k : Int) - 1 - i) < 0 := by omega
    have st := shr_byte x (k - 1 - i) (by omega) (y := 8 * ((k : Int) - 1 - i)) (by omega)
    have hl : (beP k x i).length = k := beP_len hi
    have hx : (byteRows (beP k x i))[i]? = some [.i .u8 ((beP k x i)[i].toNat : Int)] := byteRows_get (by omega)
    have hset := byteRows_set (beP k x i) i (UInt8.ofNat (x / 256 ^ (k - 1 - i) % 256))
    rw [beP_set hlt] at hset
    generalize UInt8.ofNat (x / 256 ^ (k - 1 - i) % 256) = c at st hset
    have key := fun N => hnext (i + 1, N) (by simp only; omega)
    simp only at key
    simp [lenA_sl, c1, c3, w1, w2, w3, p1, hx, st, hset]
    exact key _ ⟨hlt, by omega⟩
  · obtain rfl : i = k := by omega
    simp
    refine hQ _ _ _ ⟨nx + 2, by simp [be_len], by simp [beP_all], by omega, by omega⟩

end Ab
end Go.Proofs.YtmbbnoipoifhhaaGreatDoor

/-
  DERIVED. The log's bytes: a record's sum, a record, a file's head, a file's name.
  Conditions: enough rounds, enough depth; bounded lengths.
-/
namespace Go.Proofs.YtmbbnoipoifhhaaGreatDoor
namespace Ab
set_option maxRecDepth 100000
set_option maxHeartbeats 8000000
set_option linter.all false
attribute [local simp] wp_regW opsW_nil opsW_cons opsK_eq regK_no regK_draw oW_n oW_h oW_r oW_pn convA appendA appRow newsA rowsSz rowsOf isIntD makeSliceA elemOf rowsBuilt eqA eq1

/-- Bytes made on the heap. -/
def MadeB (H : Hp) (N : Nat) (b : Bs) (r : AV) (H' : Hp) (N' : Nat) : Prop := ∃ a g, r = .rs a g 0 b.length 1 ∧ lk H' a = some (g, .arr 1 (byteRows b)) ∧ N ≤ a ∧ a < N' ∧ ∀ j, j < N → lk H' j = lk H j
/-- Bytes that a slice of an array shows. -/
structure BV (H : Hp) (v : AV) (b : Bs) (k g i0 : Nat) (all : List (List AV)) : Prop where
  v : v = .rs k g i0 b.length 1
  at_ : lk H k = some (g, .arr 1 all)
  rows : (all.drop i0).take b.length = byteRows b
  len : i0 + b.length ≤ all.length

theorem frz_slice1 {get : Ref → Option AO} {m k g i0 len : Nat} {all : List (List AV)} {b : Bs} (h1 : get (.h k g) = some (.arr 1 all)) (h2 : (all.drop i0).take len = byteRows b) (h3 : i0 + len ≤ all.length) : frz get (m + 2) (.rs k g i0 len 1) = some (.vs false 1 (byteRows b)) := by
  rw [frz_rs]
  simp only [rowsOf, h1, h3, and_self, if_true, h2, frz_bytes, Option.map_some]
theorem frz_slice {get : Ref → Option AO} {k g i0 len : Nat} {all : List (List AV)} {b : Bs} (h1 : get (.h k g) = some (.arr 1 all)) (h2 : (all.drop i0).take len = byteRows b) (h3 : i0 + len ≤ all.length) : mapO (frz get frzDepth) [.rs k g i0 len 1] = some [.vs false 1 (byteRows b)] := by
  simp only [mapO, frzDepth, frz_slice1 (m := 10) h1 h2 h3, Option.map_some]
theorem frz_all {get : Ref → Option AO} {k g len : Nat} {b : Bs} (h1 : get (.h k g) = some (.arr 1 (byteRows b))) (h2 : len = b.length) : mapO (frz get frzDepth) [.rs k g 0 len 1] = some [.vs false 1 (byteRows b)] :=
  frz_slice h1 (by rw [List.drop_zero, h2, ← byteRows_len, List.take_length]) (by simp [h2])

theorem rows_take {x : Bs} {m : Nat} (h : m = x.length) : (byteRows x).take m = byteRows x := by rw [h, ← byteRows_len, List.take_length]
theorem be4_take (x : Nat) : (byteRows (be 4 x)).take 4 = byteRows (be 4 x) := rows_take (by simp [be_len])
theorem be8_take (x : Nat) : (byteRows (be 8 x)).take 8 = byteRows (be 8 x) := rows_take (by simp [be_len])
theorem shown_rows {x : Bs} {m : Nat} (h : m = x.length) : shown (byteRows x) 0 m = byteRows x := shown_all (by simpa using h)

theorem c_sum {K n : Nat} (hK : big K) (hn : 3 ≤ n) {H : Hp} {N no k g i0 : Nat} {v : AV} {b : Bs} {all : List (List AV)} (hno : no < 18446744073709551616) (hb : BV H v b k g i0 all) (hk : k < N) (hl : b.length ≤ 2 ^ 20) :
    Sp K n 78 [.i .u64 (no : Nat), v] H N (MadeB H N (sumB no b)) := by
  refine sp_cps fun Q hQ => ?_
  obtain ⟨n, rfl⟩ : ∃ m, n = m + 1 := ⟨n - 1, by omega⟩
  obtain ⟨rfl, h1, h2, h3⟩ := hb
  refine sp_of rfl (run_wp Tryz.func78 rfl (by simp [Tryz.f78]) ?_)
  have wl : IntKind.u64.wrap (b.length : Int) = (b.length : Nat) := wrap_u64' (by omega)
  simp [lenA_sl]
  refine (c_bytes hK (by omega) 8 no (by omega) _).cW ?_
  rintro _ _ n1 ⟨a1, rfl, rfl, g1, g2⟩
  have f1 : ¬ k = a1 := by omega
  simp [lenA_sl, h1, lk_set, f1, be_len, wl]
  refine (c_bytes hK (by omega) 4 b.length (by omega) _).cW ?_
  rintro _ _ n2 ⟨a2, rfl, rfl, g3, g4⟩
  have f2 : ¬ k = a2 := by omega
  have f3 : ¬ a1 = a2 := by omega
  have f4 : ¬ a2 = a1 := by omega
  have s1 : shown (byteRows (be 8 no)) 0 8 = byteRows (be 8 no) := shown_all (by simp [be_len])
  have s2 : shown (byteRows (be 8 no ++ be 4 b.length)) 0 12 = byteRows (be 8 no ++ be 4 b.length) := shown_rows (by simp [be_len])
  have d1 : (12 + b.length) * 2 ≤ 68719476736 := by omega
  have e1 : ∀ x y : Bs, byteRows x ++ byteRows y = byteRows (x ++ y) := fun x y => (byteRows_app x y).symm
  have h3' : i0 ≤ all.length := by omega
  by_cases hb0 : b = []
  · subst hb0
    simp [h3', lenA_sl, h1, lk_set, f1, f2, f3, f4, be_len, wl, mostB, h2, h3, s1, s2, be4_take, be8_take, e1]
    refine pn_use (frz_all (b := be 8 no ++ be 4 0) (by simp [lk_set]) (by simp [be_len])) (c_Hash hK (by omega) false (be 8 no ++ be 4 0) (by simp [be_len])) rfl fun rd => ?_
    simp
    refine (c_bytes hK (by omega) 8 (fnv (be 8 no ++ be 4 0)) (by omega) _).cW ?_
    rintro _ _ n3 ⟨a3, rfl, rfl, g5, g6⟩
    simp [be_len]
    refine hQ _ _ _ ⟨a3, 0, by simp [sum_len], by simp [lk_set, sumB], by omega, by omega, fun j hj => ?_⟩
    have t1 : ¬ j = a1 := by omega
    have t2 : ¬ j = a2 := by omega
    have t3 : ¬ j = a3 := by omega
    simp [lk_set, t1, t2, t3]
  · have hb1 : ¬ b.length = 0 := fun e => hb0 (List.length_eq_zero_iff.1 e)
    have hb2 : byteRows b ≠ [] := fun e => hb0 (by simpa [byteRows] using e)
    simp [lenA_sl, h1, lk_set, f1, f2, f3, f4, be_len, wl, mostB, h2, h3, s1, s2, be4_take, be8_take, hb0, hb1, hb2, d1, e1]
    refine pn_use (frz_all (b := be 8 no ++ be 4 b.length ++ b) (by simp [lk_set, List.append_assoc]) (by simp [be_len]; omega)) (c_Hash hK (by omega) false (be 8 no ++ be 4 b.length ++ b) (by simp [be_len]; omega)) rfl fun rd => ?_
    simp
    refine (c_bytes hK (by omega) 8 (fnv (be 8 no ++ be 4 b.length ++ b)) (by omega) _).cW ?_
    rintro _ _ n3 ⟨a3, rfl, rfl, g5, g6⟩
    simp [be_len]
    refine hQ _ _ _ ⟨a3, 0, by simp [sum_len], by simp [lk_set, sumB], by omega, by omega, fun j hj => ?_⟩
    have t1 : ¬ j = a1 := by omega
    have t2 : ¬ j = a2 := by omega
    have t3 : ¬ j = a3 := by omega
    simp [lk_set, t1, t2, t3]

theorem c_head {K n : Nat} (hK : big K) (hn : 3 ≤ n) {H : Hp} {N no : Nat} (hno : no < 18446744073709551616) : Sp K n 79 [.i .u64 (no : Nat)] H N (MadeB H N (headB no)) := by
  refine sp_cps fun Q hQ => ?_
  obtain ⟨n, rfl⟩ : ∃ m, n = m + 1 := ⟨n - 1, by omega⟩
  refine sp_of rfl (run_wp Tryz.func79 rfl (by simp [Tryz.f79]) ?_)
  have e1 : ∀ x y : Bs, byteRows x ++ byteRows y = byteRows (x ++ y) := fun x y => (byteRows_app x y).symm
  have m0 : [[AV.i .u8 76], [AV.i .u8 79], [AV.i .u8 67], [AV.i .u8 75], [AV.i .u8 83], [AV.i .u8 84], [AV.i .u8 69], [AV.i .u8 80]] = byteRows magicB := rfl
  have m1 : magicB.length = 8 := rfl
  simp [lenA_sl, lk_set]
  refine (c_bytes hK (by omega) 8 no (by omega) _).cW ?_
  rintro _ _ n1 ⟨a1, rfl, rfl, g1, g2⟩
  have f1 : ∀ c, c ≤ 5 → ¬ N + c = a1 := fun c hc => by omega
  have s1 : shown (byteRows magicB) 0 8 = byteRows magicB := shown_rows rfl
  have s2 : shown (byteRows (magicB ++ be 8 no)) 0 16 = byteRows (magicB ++ be 8 no) := shown_rows (by simp [be_len, m1])
  simp only [m0]
  simp [lenA_sl, lk_set, be_len, mostB, f1, s1, e1, m1, be8_take, up_up]
  refine pn_use (frz_all (b := magicB ++ be 8 no) (by simp [lk_set, f1]) (by simp [be_len, m1])) (c_Hash hK (by omega) false (magicB ++ be 8 no) (by simp [be_len, m1])) rfl fun rd => ?_
  simp
  refine (c_bytes hK (by omega) 8 (fnv (magicB ++ be 8 no)) (by omega) _).cW ?_
  rintro _ _ n3 ⟨a3, rfl, rfl, g5, g6⟩
  have f2 : ∀ c, c ≤ 5 → ¬ N + c = a3 := fun c hc => by omega
  have hlen : (headB no).length = 24 := head_len no
  simp [lenA_sl, lk_set, be_len, mostB, f1, f2, s2, e1, m1, be8_take, up_up]
  refine hQ _ _ _ ⟨N + 1, 2, by simp [hlen], by simp [lk_set, headB], by omega, by omega, fun j hj => ?_⟩
  have t1 : ¬ j = N + 1 := by omega
  have t2 : ¬ j = a1 := by omega
  have t3 : ¬ j = a3 := by omega
  simp [lk_set, t1, t2, t3]

theorem c_record {K n : Nat} (hK : big K) (hn : 4 ≤ n) {H : Hp} {N no k g i0 : Nat} {v : AV} {b : Bs} {all : List (List AV)} (hno : no < 18446744073709551616) (hb : BV H v b k g i0 all) (hk : k < N) (hl : b.length ≤ 2 ^ 20) :
    Sp K n 39 [.i .u64 (no : Nat), v] H N (MadeB H N (recB no b)) := by
  refine sp_cps fun Q hQ => ?_
  obtain ⟨n, rfl⟩ : ∃ m, n = m + 1 := ⟨n - 1, by omega⟩
  have hb' := hb
  obtain ⟨rfl, h1, h2, h3⟩ := hb
  refine sp_of rfl (run_wp Tryz.func39 rfl (by simp [Tryz.f39]) ?_)
  have wl : IntKind.u64.wrap (b.length : Int) = (b.length : Nat) := wrap_u64' (by omega)
  have e1 : ∀ x y : Bs, byteRows x ++ byteRows y = byteRows (x ++ y) := fun x y => (byteRows_app x y).symm
  have h3' : i0 ≤ all.length := by omega
  have d1 : (4 + b.length) * 2 ≤ 68719476736 := by omega
  have d2 : (4 + b.length + 8) * 2 ≤ 68719476736 := by omega
  simp [lenA_sl, wl]
  refine (c_bytes hK (by omega) 4 b.length (by omega) _).cW ?_
  rintro _ _ n1 ⟨a1, rfl, rfl, g1, g2⟩
  have f1 : ¬ k = a1 := by omega
  have s1 : shown (byteRows (be 4 b.length)) 0 4 = byteRows (be 4 b.length) := shown_rows (by simp [be_len])
  have s2 : shown (byteRows (be 4 b.length ++ b)) 0 (4 + b.length) = byteRows (be 4 b.length ++ b) := shown_rows (by simp [be_len])
  have hlen := rec_len no b
  by_cases hb0 : b = []
  · subst hb0
    simp [h3', lenA_sl, h1, lk_set, f1, be_len, wl, mostB, h2, h3, s1, e1, up_up, be4_take]
    refine (c_sum (b := []) hK (by omega) hno (v := .rs k g i0 0 1) (all := all) ⟨rfl, by simp [lk_set, f1, h1], h2, h3⟩ (by omega) (by simp)).cW ?_
    rintro _ H2 n2 ⟨a2, g2, rfl, q1, q2, q3, q4⟩
    have q5 := q4 a1 (by omega)
    simp [lk_set] at q5
    have hs : (sumB no ([] : Bs)).length = 8 := sum_len _ _
    have s4 : (byteRows (sumB no ([] : Bs))).take 8 = byteRows (sumB no ([] : Bs)) := rows_take hs.symm
    have hs0 : ¬ sumB no ([] : Bs) = [] := fun e => by rw [e] at hs; simp at hs
    have hs1 : byteRows (sumB no ([] : Bs)) ≠ [] := fun e => by have := congrArg List.length e; simp [hs] at this
    have s5 : shown (byteRows (be 4 0)) 0 4 = byteRows (be 4 0) := shown_rows (by simp [be_len])
    simp [lenA_sl, q5, q1, hs, s5, s4, hs0, hs1, mostB, e1, be_len]
    refine hQ _ _ _ ?_
    refine ⟨a1, 1, by simp [hlen], by simp [lk_set, recB], by omega, by omega, fun j hj => ?_⟩
    have t1 : ¬ j = a1 := by omega
    have := q4 j (by omega)
    simp [lk_set, t1] at this ⊢
    exact this
  · have hb1 : ¬ b.length = 0 := fun e => hb0 (List.length_eq_zero_iff.1 e)
    have hb2 : byteRows b ≠ [] := fun e => hb0 (by simpa [byteRows] using e)
    simp [lenA_sl, h1, lk_set, f1, be_len, wl, mostB, h2, h3, s1, hb0, hb1, hb2, d1, e1, up_up, be4_take]
    refine (c_sum (b := b) hK (by omega) hno (v := .rs k g i0 b.length 1) (all := all) ⟨rfl, by simp [lk_set, f1, h1], h2, h3⟩ (by omega) (by omega)).cW ?_
    rintro _ H2 n2 ⟨a2, g2, rfl, q1, q2, q3, q4⟩
    have q5 := q4 a1 (by omega)
    simp [lk_set] at q5
    have hs : (sumB no b).length = 8 := sum_len _ _
    have s4 : (byteRows (sumB no b)).take 8 = byteRows (sumB no b) := rows_take hs.symm
    have hs0 : ¬ sumB no b = [] := fun e => by rw [e] at hs; simp at hs
    have hs1 : byteRows (sumB no b) ≠ [] := fun e => by have := congrArg List.length e; simp [hs] at this
    simp [lenA_sl, q5, q1, hs, s2, s4, hs0, hs1, mostB, e1, d2, be_len]
    refine hQ _ _ _ ?_
    refine ⟨a1, 2, by simp [hlen]; omega, by simp [lk_set, recB], by omega, by omega, fun j hj => ?_⟩
    have t1 : ¬ j = a1 := by omega
    have := q4 j (by omega)
    simp [lk_set, t1] at this ⊢
    exact this

theorem ba_app (x y : Bs) : ba x ++ ba y = ba (x ++ y) := by
  apply ByteArray.ext
  simp [ba, ByteArray.data_append]
theorem dig_get : ∀ d, d < 16 → ([48, 49, 50, 51, 52, 53, 54, 55, 56, 57, 97, 98, 99, 100, 101, 102] : Bs)[d]? = some (hexD d) := by decide
theorem hexN_get : ∀ k x i, i < k → (hexN k x)[i]? = some (hexD (x / 16 ^ (k - 1 - i) % 16))
  | 0, x, i, h => by omega
  | k + 1, x, 0, h => by simp [hexN]
  | k + 1, x, i + 1, h => by
    rw [hexN, List.getElem?_cons_succ, hexN_get k x i (by omega), show k + 1 - 1 - (i + 1) = k - 1 - i by omega]
theorem pow_16 (j : Nat) : (2 : Int) ^ (4 * j) = ((16 ^ j : Nat) : Int) := by
  rw [Int.natCast_pow, Int.pow_mul]
  rfl
theorem shr_dig {x j : Nat} (hx : x < 18446744073709551616) (hj : j ≤ 15) {y : Int} (hy : y = 4 * (j : Int)) :
    IntKind.u64.wrap (((Int.fdiv (x : Int) (2 ^ (min y.toNat IntKind.u64.bits)) % 2 ^ IntKind.u64.bits).toNat &&& 15 % 2 ^ IntKind.u64.bits : Nat) : Int) = ((x / 16 ^ j % 16 : Nat) : Int) := by
  rw [show 15 % 2 ^ IntKind.u64.bits = 15 from modn64 (by omega)]
  have h1 : min y.toNat IntKind.u64.bits = 4 * j := by rw [bits_u64]; omega
  have h2 : x / 16 ^ j < 18446744073709551616 := Nat.lt_of_le_of_lt (Nat.div_le_self _ _) hx
  rw [h1, pow_16, Int.fdiv_eq_ediv_of_nonneg _ (Int.natCast_nonneg _), ← Int.natCast_ediv, modi64 h2, show (15 : Nat) = 2 ^ 4 - 1 from rfl, Nat.and_two_pow_sub_one_eq_mod, wrap_u64' (by omega)]

theorem c_file {K n : Nat} (hK : big K) (hn : 1 ≤ n) {H : Hp} {N no kl : Nat} {name : Bs} {v0 v2 v3 v4 v5 : AV} (hno : no < 18446744073709551616) (hl : name.length ≤ 40) (hg : lk H kl = some (0, .cells [v0, .s (ba name), v2, v3, v4, v5])) :
    Sp K n 38 [.ptr kl 0 0, .i .u64 (no : Nat)] H N fun r H' N' => r = .s (ba (fileN name no)) ∧ N ≤ N' ∧ ∀ j, j < N → lk H' j = lk H j := by
  refine sp_cps fun Q hQ => ?_
  obtain ⟨n, rfl⟩ : ∃ m, n = m + 1 := ⟨n - 1, by omega⟩
  refine sp_of rfl (run_wp Tryz.func38 rfl (by simp [Tryz.f38]) ?_)
  have d1 : name.length + 1 ≤ 9223372036854775807 := by omega
  have d2 : name.length + 1 ≤ 68719476736 := by omega
  have dot : ({ data := #[46] } : ByteArray) = ba [46] := rfl
  have st : rowsOfBytes (ba (name ++ [46])) = byteRows (name ++ [46]) := rfl
  simp [hg, d1, d2, mostB, dot, ba_app, st]
  let P : Nat → Bs := fun i => name ++ 46 :: (hexN 16 no).take i
  have hP : ∀ i, i ≤ 16 → (P i).length = name.length + (1 + i) := fun i hi => by simp [P, hexN_len, Nat.min_eq_left hi]; omega
  refine loop_wp (ι := Nat × Nat × Nat × Hp × Nat) (fun i => { env := [(1, .i .u64 (no : Nat)), (5, .rs i.2.1 i.2.2.1 0 (name.length + (1 + i.1)) 1), (6, .i .i64 (60 - 4 * (i.1 : Int)))], loc := [], hp := i.2.2.2.1, nx := i.2.2.2.2 }) (fun i => 16 - i.1)
    (fun i => i.1 ≤ 16 ∧ N ≤ i.2.1 ∧ i.2.1 < i.2.2.2.2 ∧ lk i.2.2.2.1 i.2.1 = some (i.2.2.1, .arr 1 (byteRows (P i.1))) ∧ ∀ j, j < N → lk i.2.2.2.1 j = lk H j) (0, N + 1 + 5, 0, _, _) rfl ⟨by simp, by simp only; omega, by simp only; omega, by simp [P, lk_set], fun j hj => ?_⟩ (by simp; unfold big at hK; omega) ?_
  · have t1 : ¬ j = N + 1 + 5 := by omega
    simp [lk_set, t1]
  rintro Next ⟨i, a, g, H', M⟩ ⟨hi, hN, hM, ha, hlow⟩ hnext
  simp only at hi hN hM ha hlow hnext ⊢
  by_cases hlt : i < 16
  · have c1 : 4 * (i : Int) ≤ 60 := by omega
    have c2 : ¬ (60 - 4 * (i : Int)) < 0 := by omega
    have w1 : IntKind.i64.wrap (60 - 4 * (i : Int) - 4) = 60 - 4 * ((i + 1 : Nat) : Int) := by rw [wrap_i64 (by omega) (by omega)]; omega
    have hd : no / 16 ^ (15 - i) % 16 < 16 := Nat.mod_lt _ (by omega)
    have st := shr_dig (x := no) (j := 15 - i) hno (by omega) (y := 60 - 4 * (i : Int)) (by omega)
    have hg2 := dig_get _ hd
    have hx := hexN_get 16 no i hlt
    rw [show 16 - 1 - i = 15 - i by omega] at hx
    have hP1 : P (i + 1) = P i ++ [hexD (no / 16 ^ (15 - i) % 16)] := by
      simp only [P, List.append_assoc, List.cons_append]
      rw [List.take_add_one, hx]
      rfl
    have d3 : (name.length + (1 + (i + 1))) * 2 ≤ 68719476736 := by omega
    have fa : ∀ c, ¬ a = M + c := fun c => by omega
    have fa' : ∀ c, ¬ M + c = a := fun c => by omega
    have s1 : shown (byteRows (P i)) 0 (name.length + (1 + i)) = byteRows (P i) := shown_rows (by rw [hP i hi])
    have key := fun g H' M => hnext (i + 1, a, g, H', M) (by simp only; omega)
    simp only [hP1] at key
    generalize no / 16 ^ (15 - i) % 16 = dg at *
    have dgs : ({ data := #[48, 49, 50, 51, 52, 53, 54, 55, 56, 57, 97, 98, 99, 100, 101, 102] } : ByteArray).data.toList[((dg : Nat) : Int).toNat]? = some (hexD dg) := hg2
    simp [c1, c2, w1, st, ha, hP i hi, d3, fa, fa', s1, mostB, hg2, lk_set, Nat.add_assoc]
    refine key _ _ _ ⟨hlt, hN, by omega, ?_, fun j hj => ?_⟩
    · simp [lk_set, byteRows_app]
      rfl
    · have t1 : ¬ j = a := by omega
      have t2 : ∀ c, ¬ j = M + c := fun c => by omega
      simp [lk_set, t1, t2, hlow j hj]
  · obtain rfl : i = 16 := by omega
    have hbo := bytesOf_rows (P 16)
    have htk : (byteRows (P 16)).take (name.length + (1 + 16)) = byteRows (P 16) := rows_take (by rw [hP 16 (Nat.le_refl _)])
    simp [ha, hP 16 (Nat.le_refl _), htk, hbo]
    refine hQ _ _ _ ⟨?_, by omega, hlow⟩
    have : P 16 = fileN name no := by simp only [P, fileN]; rw [List.take_of_length_le (by simp [hexN_len])]
    rw [this]
    rfl

end Ab
end Go.Proofs.YtmbbnoipoifhhaaGreatDoor

/-
  DERIVED. A log's name; the number of a log's file.
  Conditions: enough rounds, enough depth; bounded lengths.
-/
namespace Go.Proofs.YtmbbnoipoifhhaaGreatDoor
namespace Ab
set_option maxRecDepth 100000
set_option maxHeartbeats 8000000
set_option linter.all false
attribute [local simp] wp_regW opsW_nil opsW_cons opsK_eq regK_no regK_draw oW_n oW_h oW_r oW_pn convA appendA appRow newsA rowsSz rowsOf isIntD makeSliceA elemOf rowsBuilt eqA eq1

theorem ba_ext (l : Bs) (i j : Nat) : (ba l).extract i j = ba ((l.drop i).take (j - i)) := by
  apply ByteArray.ext
  simp [ba, ByteArray.data_extract, List.extract]
theorem dropSet {p : UInt8 → Bool} {l : Bs} (h : l.dropWhile p = []) : ∀ x ∈ l, p x = true := by
  induction l with
  | nil => intro x hx; cases hx
  | cons b l ih =>
    intro x hx
    rw [List.dropWhile_cons] at h
    split at h
    · rename_i hb
      rcases List.mem_cons.1 hx with rfl | hx
      · exact hb
      · exact ih h x hx
    · cases h
theorem dropAll {p : UInt8 → Bool} : ∀ {l : Bs}, (∀ x ∈ l, p x = true) → l.dropWhile p = []
  | [], _ => rfl
  | b :: l, h => by
    rw [List.dropWhile_cons, if_pos (h b (by simp)), dropAll fun x hx => h x (by simp [hx])]
theorem trimS_nil (l p : Bs) : (Lib.trimS l p = []) ↔ ∀ x ∈ l, p.contains x = true := by
  unfold Lib.trimS Lib.trimLeftS Lib.trimRightS
  constructor
  · intro h
    have h1 := dropSet h
    by_cases hr : l.reverse.dropWhile (p.contains ·) = []
    · intro x hx
      exact dropSet hr x (List.mem_reverse.2 hx)
    · intro x hx
      obtain ⟨y, r, hy⟩ : ∃ y r, l.reverse.dropWhile (p.contains ·) = y :: r := by
        cases hd : l.reverse.dropWhile (p.contains ·) with
        | nil => exact absurd hd hr
        | cons y r => exact ⟨y, r, rfl⟩
      have h2 := h1 y (by rw [hy]; simp)
      have h3 : p.contains y = false := by
        have := List.head?_dropWhile_not (p.contains ·) l.reverse
        rw [hy] at this
        simpa using this
      rw [h2] at h3; cases h3
  · intro h
    rw [dropAll (l := l.reverse) fun x hx => h x (List.mem_reverse.1 hx)]
    rfl
def cutS : Bs := [97, 98, 99, 100, 101, 102, 103, 104, 105, 106, 107, 108, 109, 110, 111, 112, 113, 114, 115, 116, 117, 118, 119, 120, 121, 122, 48, 49, 50, 51, 52, 53, 54, 55, 56, 57, 95]
theorem cut_set (b : UInt8) : cutS.contains b = ((decide (97 ≤ b.toNat) && decide (b.toNat ≤ 122)) || (decide (48 ≤ b.toNat) && decide (b.toNat ≤ 57)) || b == 95) := by
  have h : ∀ n, n < 256 → cutS.contains (UInt8.ofNat n) = ((decide (97 ≤ n) && decide (n ≤ 122)) || (decide (48 ≤ n) && decide (n ≤ 57)) || UInt8.ofNat n == 95) := by decide
  have := h b.toNat b.toNat_lt
  simpa using this
theorem goTrim (call : CallT) (st : St) (nx : Nat) (dst : Option Nat) (l p : Bs) (h : l.length < 4294967281) (hp : p.length < 4294967281) (ha : (p.all fun b => decide (b.toNat < 128)) = true) : goCall cfg call st nx dst 70 [.s (ba l), .s (ba p)] = some (⟨dst, .s (ba (Lib.trimS l p)), [], none, some []⟩, nx) := by
  have : cfg.intr 70 = intr10 70 := rfl
  refine goCall_i this ?_
  simp only [ba_size, ba_data]
  rw [if_pos ⟨h, hp, ha⟩]
theorem goIndexByte (call : CallT) (st : St) (nx : Nat) (dst : Option Nat) (l : Bs) (c : Int) : goCall cfg call st nx dst 115 [.s (ba l), .i .u8 c] = some (⟨dst, .i .i64 (Lib.indexByte l c.toNat.toUInt8), [], none, some []⟩, nx) := by
  have : cfg.intr 115 = intr10 115 := rfl
  exact goCall_i this rfl

theorem c_named {K n : Nat} (hn : 1 ≤ n) (s : Bs) : pR (callA cfg K n) 33 [.s (ba s)] = some (.b (namedN s)) := by
  obtain ⟨n, rfl⟩ : ∃ m, n = m + 1 := ⟨n - 1, by omega⟩
  refine pr_of rfl ?_ rfl
  refine run_wp Tryz.func33 rfl (by simp [Tryz.f33]) ?_
  have cs : ({ data := #[97, 98, 99, 100, 101, 102, 103, 104, 105, 106, 107, 108, 109, 110, 111, 112, 113, 114, 115, 116, 117, 118, 119, 120, 121, 122, 48, 49, 50, 51, 52, 53, 54, 55, 56, 57, 95] } : ByteArray) = ba cutS := rfl
  by_cases h1 : (1 : Int) ≤ s.length
  · by_cases h2 : (s.length : Int) ≤ 40
    · have ht := fun st nx dst => goTrim (callA cfg K n) st nx dst s cutS (by omega) (by decide) (by decide)
      have hN : namedN s = decide (Lib.trimS s cutS = []) := by
        rw [Bool.eq_iff_iff]
        simp only [decide_eq_true_eq]
        rw [trimS_nil]
        unfold namedN
        simp only [Bool.and_eq_true, decide_eq_true_eq, List.all_eq_true]
        constructor
        · rintro ⟨_, h⟩ x hx
          rw [cut_set]
          exact h x hx
        · intro h
          refine ⟨⟨by omega, by omega⟩, fun x hx => ?_⟩
          rw [← cut_set]
          exact h x hx
      simp [h1, h2, cs, ht, hN]
      rw [ba_list]
      cases Lib.trimS s cutS <;> rfl
    · have hN : namedN s = false := by unfold namedN; simp; omega
      simp [h1, h2, hN]
  · have hN : namedN s = false := by unfold namedN; simp; omega
    simp [h1, hN]

theorem c_hasPre {K n : Nat} (hn : 1 ≤ n) (s p : Bs) (hs : s.length ≤ 2 ^ 40) (hp : p.length ≤ 2 ^ 40) : pR (callA cfg K n) 158 [.s (ba s), .s (ba p)] = some (.b (decide (s.take p.length = p))) := by
  obtain ⟨n, rfl⟩ : ∃ m, n = m + 1 := ⟨n - 1, by omega⟩
  refine pr_of rfl ?_ rfl
  refine run_wp Tryz.func158 rfl (by simp [Tryz.f158]) ?_
  by_cases h1 : (p.length : Int) ≤ s.length
  · have h2 : p.length ≤ s.length := by omega
    simp [h1, h2, ba_ext, ba_list]
    rw [Bool.eq_iff_iff]
    simp
  · have : ¬ s.take p.length = p := fun e => by have := congrArg List.length e; simp at this; omega
    simp [h1, this]

theorem c_lcutPre {K n : Nat} (hn : 2 ≤ n) (s p : Bs) (hs : s.length ≤ 2 ^ 40) (hp : p.length ≤ 2 ^ 40) : pR (callA cfg K n) 138 [.s (ba s), .s (ba p)] = some (if s.take p.length = p then .tup [.s (ba (s.drop p.length)), .b true] else .tup [.s (ba s), .b false]) := by
  obtain ⟨n, rfl⟩ : ∃ m, n = m + 1 := ⟨n - 1, by omega⟩
  have hc := c_hasPre (K := K) (n := n) (by omega) s p hs hp
  refine pr_of rfl ?_ (by split <;> rfl)
  refine run_wp Tryz.func138 rfl (by simp [Tryz.f138]) ?_
  by_cases h : s.take p.length = p
  · have h2 : p.length ≤ s.length := by have := congrArg List.length h; simp at this; omega
    simp [hc, h, h2, ba_ext]
    rw [List.take_of_length_le (by simp)]
  · simp [hc, h]
theorem c_cutPre {K n : Nat} (hn : 3 ≤ n) (s p : Bs) (hs : s.length ≤ 2 ^ 40) (hp : p.length ≤ 2 ^ 40) : pR (callA cfg K n) 114 [.s (ba s), .s (ba p)] = some (if s.take p.length = p then .tup [.s (ba (s.drop p.length)), .b true] else .tup [.s (ba s), .b false]) := by
  obtain ⟨n, rfl⟩ : ∃ m, n = m + 1 := ⟨n - 1, by omega⟩
  have hc := c_lcutPre (K := K) (n := n) (by omega) s p hs hp
  refine pr_of rfl ?_ (by split <;> rfl)
  refine run_wp Tryz.func114 rfl (by simp [Tryz.f114]) ?_
  by_cases h : s.take p.length = p
  · simp [hc, h]
  · simp [hc, h]

def digS : Bs := [48, 49, 50, 51, 52, 53, 54, 55, 56, 57, 97, 98, 99, 100, 101, 102]
theorem dig_index (c : UInt8) : Lib.indexByte digS c = match digI c with | some d => (d : Int) | none => -1 := by
  have h : ∀ n, n < 256 → Lib.indexByte digS (UInt8.ofNat n) = match digI (UInt8.ofNat n) with | some d => (d : Int) | none => -1 := by decide
  have := h c.toNat c.toNat_lt
  simpa using this
/-- A number's text, or none. -/
def numR : Option Nat → AV
  | some n => .tup [.i .u64 (n : Nat), .b true]
  | none => .tup [.i .u64 0, .b false]
theorem numbered_eq (name file : Bs) : numberedN name file = if file.take (name.length + 1) = name ++ [46] ∧ file.length = name.length + 17 then unhexF 0 (file.drop (name.length + 1)) else none := rfl

theorem c_numbered {K n : Nat} (hK : big K) (hn : 4 ≤ n) (name file : Bs) (h1 : name.length ≤ 40) (h2 : file.length ≤ 2 ^ 40) : pR (callA cfg K n) 72 [.s (ba name), .s (ba file)] = some (numR (numberedN name file)) := by
  obtain ⟨n, rfl⟩ : ∃ m, n = m + 1 := ⟨n - 1, by omega⟩
  have hc := c_cutPre (K := K) (n := n) (by omega) file (name ++ [46]) h2 (by simp; omega)
  have dot : ({ data := #[46] } : ByteArray) = ba [46] := rfl
  have dgs : ({ data := #[48, 49, 50, 51, 52, 53, 54, 55, 56, 57, 97, 98, 99, 100, 101, 102] } : ByteArray) = ba digS := rfl
  have hix := fun st nx dst => goIndexByte (callA cfg K n) st nx dst digS
  have d1 : name.length + 1 ≤ 9223372036854775807 := by omega
  refine pr_of rfl ?_ (by unfold numR; split <;> rfl)
  refine run_wp Tryz.func72 rfl (by simp [Tryz.f72]) ?_
  rw [numbered_eq]
  simp at hc
  by_cases hp : file.take (name.length + 1) = name ++ [46]
  · have hlen : name.length + 1 ≤ file.length := by have := congrArg List.length hp; simp at this; omega
    by_cases hq : file.length = name.length + 17
    · have q1 : ((file.length - (name.length + 1) : Nat) : Int) = 16 := by omega
      simp [hc, hp, dot, ba_app, d1, q1, hq]
      have hrl : (file.drop (name.length + 1)).length = 16 := by simp; omega
      generalize file.drop (name.length + 1) = r at *
      refine loop_wp (ι := Nat × Nat × Nat) (fun i => { env := [(6, .s (ba r)), (8, .i .u64 (i.2.1 : Nat)), (25, .i .i64 (i.1 : Nat))], loc := [], hp := [], nx := i.2.2 }) (fun i => 16 - i.1)
        (fun i => i.1 ≤ 16 ∧ i.2.1 < 16 ^ i.1 ∧ unhexF 0 r = unhexF i.2.1 (r.drop i.1)) (0, 0, 20) rfl ⟨by simp, by simp, by simp⟩ (by simp; unfold big at hK; omega) ?_
      rintro Next ⟨i, m, N⟩ ⟨hi, hm, he⟩ hnext
      simp only at hi hm he hnext ⊢
      by_cases hlt : i < 16
      · have c1 : (i : Int) < 16 := by omega
        have hx : r[i]? = some r[i] := List.getElem?_eq_getElem (by omega)
        have hd : r.drop i = r[i] :: r.drop (i + 1) := List.drop_eq_getElem_cons (by omega)
        have c3 : IntKind.i64.wrap ((i : Int) + 1) = ((i + 1 : Nat) : Int) := by rw [wrap_i64 (by omega) (by omega)]; omega
        have hm2 : 16 ^ (i + 1) ≤ 18446744073709551616 := by
          have : 16 ^ (i + 1) ≤ 16 ^ 16 := Nat.pow_le_pow_right (by omega) (by omega)
          exact this
        rw [Nat.pow_succ] at hm2
        have di := dig_index r[i]
        rw [hd, unhexF] at he
        cases hdi : digI r[i] with
        | none =>
          rw [hdi] at di he
          simp only at di
          simp only [Option.bind_none] at he
          simp [c1, hx, dgs, hix, di, he, numR]
        | some d =>
          rw [hdi] at di he
          simp only at di
          simp only [Option.bind_some] at he
          have hdl := (hex_dig _ _ hdi).1
          have hn0 : ¬ (d : Int) < 0 := by omega
          have st := hex_step (n := m) (x := d) (by omega) hdl
          have key := fun N => hnext (i + 1, m * 16 + d, N) (by simp only; omega) ⟨hlt, by show m * 16 + d < 16 ^ (i + 1); rw [Nat.pow_succ]; omega, he⟩
          simp [c1, hx, dgs, hix, di, hn0, st, c3]
          exact key _
      · obtain rfl : i = 16 := by omega
        have hd0 : r.drop 16 = [] := List.drop_eq_nil_of_le (by omega)
        rw [hd0, unhexF] at he
        simp [he, numR]
    · have q1 : ¬ ((file.length - (name.length + 1) : Nat) : Int) = 16 := by omega
      simp [hc, hp, dot, ba_app, d1, q1, hq, numR]
  · simp [hc, hp, dot, ba_app, d1, numR]

end Ab
end Go.Proofs.YtmbbnoipoifhhaaGreatDoor
