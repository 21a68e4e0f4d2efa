/-
  DERIVED. Numbers of 64 bits and of 8, as the interpreter comes to them; the bytes of a number, one by one. In plain Lean.
  Conditions: none of a program's.
-/
import Derived.Test.YtmbbnoipoifhhaaGreatDoorUB
set_option linter.all false
set_option maxHeartbeats 4000000
namespace Go.Proofs.YtmbbnoipoifhhaaGreatDoor
namespace Ab
set_option linter.all false
set_option maxRecDepth 100000

theorem bits_u64 : IntKind.u64.bits = 64 := rfl
theorem bits_u8 : IntKind.u8.bits = 8 := rfl
theorem pow64 : (2 : Nat) ^ 64 = 18446744073709551616 := by decide
theorem wrap_u64 (m : Nat) : IntKind.u64.wrap (m : Int) = ((m % 18446744073709551616 : Nat) : Int) := by
  unfold IntKind.wrap
  have hs : IntKind.u64.signed = false := rfl
  rw [bits_u64, hs]
  simp only [Bool.false_and, Bool.false_eq_true, if_false]
  omega
theorem wrap_u64' {m : Nat} (h : m < 18446744073709551616) : IntKind.u64.wrap (m : Int) = (m : Int) := by rw [wrap_u64, Nat.mod_eq_of_lt h]
theorem wrap_u64i {x : Int} (h1 : 0 ≤ x) (h2 : x < 18446744073709551616) : IntKind.u64.wrap x = x := by
  obtain ⟨m, rfl⟩ := Int.eq_ofNat_of_zero_le h1
  exact wrap_u64' (by omega)
theorem wrap_u8 (m : Nat) : IntKind.u8.wrap (m : Int) = ((m % 256 : Nat) : Int) := by
  unfold IntKind.wrap
  have hs : IntKind.u8.signed = false := rfl
  rw [bits_u8, hs]
  simp only [Bool.false_and, Bool.false_eq_true, if_false]
  omega
theorem mul_fnv (h : Nat) : IntKind.u64.wrap ((h : Int) * 1099511628211) = ((h * 1099511628211 % 18446744073709551616 : Nat) : Int) := by
  rw [show (h : Int) * 1099511628211 = ((h * 1099511628211 : Nat) : Int) from (Int.natCast_mul h 1099511628211).symm, wrap_u64]
theorem modi64 {m : Nat} (h : m < 18446744073709551616) : ((m : Int) % 2 ^ IntKind.u64.bits).toNat = m := by
  have h1 : ((m : Int) % 2 ^ IntKind.u64.bits) = (m : Int) := by
    rw [bits_u64]
    exact Int.emod_eq_of_lt (Int.natCast_nonneg _) (by omega)
  rw [h1, Int.toNat_natCast]
theorem modn64 {m : Nat} (h : m < 18446744073709551616) : m % 2 ^ IntKind.u64.bits = m := by
  rw [bits_u64, pow64]
  exact Nat.mod_eq_of_lt h
theorem xor64 {h x : Nat} (hh : h < 18446744073709551616) (hx : x < 18446744073709551616) : IntKind.u64.wrap ((h ^^^ x : Nat) : Int) = ((h ^^^ x : Nat) : Int) := by
  refine wrap_u64' ?_
  rw [← pow64] at hh hx ⊢
  exact Nat.xor_lt_two_pow hh hx
theorem or64 {h x : Nat} (hh : h < 18446744073709551616) (hx : x < 18446744073709551616) : IntKind.u64.wrap ((h ||| x : Nat) : Int) = ((h ||| x : Nat) : Int) := by
  refine wrap_u64' ?_
  rw [← pow64] at hh hx ⊢
  exact Nat.or_lt_two_pow hh hx
/-- One step of the hash, as the interpreter comes to it. -/
theorem hash_step {h : Nat} {x : UInt8} (hh : h < 18446744073709551616) :
    IntKind.u64.wrap (IntKind.u64.wrap (((h % 2 ^ IntKind.u64.bits) ^^^ (IntKind.u64.wrap (x.toNat : Int) % 2 ^ IntKind.u64.bits).toNat : Nat) : Int) * 1099511628211) = ((fnv1 h x : Nat) : Int) := by
  have hx : x.toNat < 18446744073709551616 := Nat.lt_of_lt_of_le x.toNat_lt (by decide)
  rw [wrap_u64' hx, modi64 hx, modn64 hh, xor64 hh hx, mul_fnv]
  rfl
theorem shl8 {n : Nat} (h : n * 256 < 18446744073709551616) : IntKind.u64.wrap ((n : Int) * 2 ^ (min 8 IntKind.u64.bits)) = ((n * 256 : Nat) : Int) := by
  rw [bits_u64, show min 8 64 = 8 from rfl, show (n : Int) * 2 ^ 8 = ((n * 256 : Nat) : Int) by omega, wrap_u64' h]
theorem or_add {n x : Nat} (hx : x < 256) : n * 256 ||| x = n * 256 + x := by
  have := Nat.two_pow_add_eq_or_of_lt (i := 8) (b := x) (by omega) n
  rw [Nat.mul_comm n 256]
  exact this.symm
theorem or_add4 {n x : Nat} (hx : x < 16) : n * 16 ||| x = n * 16 + x := by
  have := Nat.two_pow_add_eq_or_of_lt (i := 4) (b := x) (by omega) n
  rw [Nat.mul_comm n 16]
  exact this.symm
/-- One step of a number's reading. -/
theorem num_step {n : Nat} {x : UInt8} (h : n * 256 + 256 ≤ 18446744073709551616) :
    IntKind.u64.wrap (((IntKind.u64.wrap ((n : Int) * 2 ^ (min 8 IntKind.u64.bits)) % 2 ^ IntKind.u64.bits).toNat ||| (IntKind.u64.wrap (x.toNat : Int) % 2 ^ IntKind.u64.bits).toNat : Nat) : Int) = ((n * 256 + x.toNat : Nat) : Int) := by
  have hx : x.toNat < 256 := x.toNat_lt
  rw [wrap_u64' (m := x.toNat) (by omega), shl8 (by omega), modi64 (by omega), modi64 (by omega), or64 (by omega) (by omega), or_add hx]
theorem shl4 {n : Nat} (h : n * 16 < 18446744073709551616) : IntKind.u64.wrap ((n : Int) * 2 ^ (min 4 IntKind.u64.bits)) = ((n * 16 : Nat) : Int) := by
  rw [bits_u64, show min 4 64 = 4 from rfl, show (n : Int) * 2 ^ 4 = ((n * 16 : Nat) : Int) by omega, wrap_u64' h]
theorem hex_step {n x : Nat} (h : n * 16 + 16 ≤ 18446744073709551616) (hx : x < 16) :
    IntKind.u64.wrap (((IntKind.u64.wrap ((n : Int) * 2 ^ (min 4 IntKind.u64.bits)) % 2 ^ IntKind.u64.bits).toNat ||| (IntKind.u64.wrap (x : Int) % 2 ^ IntKind.u64.bits).toNat : Nat) : Int) = ((n * 16 + x : Nat) : Int) := by
  rw [wrap_u64' (m := x) (by omega), shl4 (by omega), modi64 (by omega), modi64 (by omega), or64 (by omega) (by omega), or_add4 hx]
theorem pow_256 (j : Nat) : (2 : Int) ^ (8 * j) = ((256 ^ j : Nat) : Int) := by
  rw [Int.natCast_pow, Int.pow_mul]
  rfl
theorem shr_byte (x j : Nat) (hj : j ≤ 7) {y : Int} (hy : y = 8 * (j : Int)) : IntKind.u8.wrap (Int.fdiv (x : Int) (2 ^ (min y.toNat IntKind.u64.bits))) = ((UInt8.ofNat (x / 256 ^ j % 256)).toNat : Int) := by
  have h1 : min y.toNat IntKind.u64.bits = 8 * j := by rw [bits_u64]; omega
  rw [h1, pow_256, Int.fdiv_eq_ediv_of_nonneg _ (Int.natCast_nonneg _), ← Int.natCast_ediv, wrap_u8]
  simp
/-- A number's bytes, one by one. -/
theorem be_get : ∀ k x i, i < k → (be k x)[i]? = some (UInt8.ofNat (x / 256 ^ (k - 1 - i) % 256))
  | 0, x, i, h => by omega
  | k + 1, x, 0, h => by simp [be]
  | k + 1, x, i + 1, h => by
    rw [be, List.getElem?_cons_succ, be_get k x i (by omega), show k + 1 - 1 - (i + 1) = k - 1 - i by omega]
def beP (k x i : Nat) : Bs := (be k x).take i ++ List.replicate (k - i) 0
theorem beP_len {k x i : Nat} (h : i ≤ k) : (beP k x i).length = k := by simp [beP, be_len]; omega
theorem beP_all (k x : Nat) : beP k x k = be k x := by simp [beP, List.take_of_length_le (Nat.le_of_eq (be_len k x))]
theorem beP_none (k x : Nat) : beP k x 0 = List.replicate k 0 := by simp [beP]
theorem set_mid {α : Type} {l : List α} {i m : Nat} {a v : α} (hl : l.length = m) (hi : i < m) (hv : l[i]? = some v) : (l.take i ++ List.replicate (m - i) a).set i v = l.take (i + 1) ++ List.replicate (m - (i + 1)) a := by
  rw [List.set_append_right _ _ (by rw [List.length_take]; omega), List.length_take, Nat.min_eq_left (by omega), Nat.sub_self, show m - i = (m - (i + 1)) + 1 by omega, List.replicate_succ, List.set_cons_zero, List.take_add_one, hv]
  simp
theorem beP_set {k x i : Nat} (h : i < k) : (beP k x i).set i (UInt8.ofNat (x / 256 ^ (k - 1 - i) % 256)) = beP k x (i + 1) := set_mid (be_len k x) h (be_get k x i h)
theorem byteRows_set (b : Bs) (i : Nat) (c : UInt8) : (byteRows b).set i [.i .u8 (c.toNat : Int)] = byteRows (b.set i c) := by simp [byteRows, List.map_set]
theorem byteRows_rep (k : Nat) : byteRows (List.replicate k 0) = List.replicate k [.i .u8 0] := by simp [byteRows]
theorem byteRows_get {b : Bs} {i : Nat} (h : i < b.length) : (byteRows b)[i]? = some [.i .u8 (b[i].toNat : Int)] := by simp [byteRows, List.getElem?_eq_getElem h]
theorem byteRows_drop (a : Bs) (n : Nat) : byteRows (a.drop n) = (byteRows a).drop n := by simp [byteRows, List.map_drop]
theorem numB_take {b : Bs} {i : Nat} (h : i < b.length) : numB (b.take (i + 1)) = numB (b.take i) * 256 + b[i].toNat := by
  unfold numB
  rw [List.take_succ_eq_append_getElem h, List.foldl_append]
  rfl
theorem numB_lt : ∀ b : Bs, numB b < 256 ^ b.length
  | [] => by simp [numB]
  | x :: b => by
    have h1 := num_from (x.toNat) b
    have h2 := numB_lt b
    have h3 := x.toNat_lt
    have h4 : numB (x :: b) = x.toNat * 256 ^ b.length + numB b := by
      rw [← h1]
      simp [numB]
    rw [h4, List.length_cons, Nat.pow_succ, Nat.mul_comm _ 256]
    have h5 : x.toNat * 256 ^ b.length ≤ 255 * 256 ^ b.length := Nat.mul_le_mul_right _ (by omega)
    omega

end Ab
end Go.Proofs.YtmbbnoipoifhhaaGreatDoor
