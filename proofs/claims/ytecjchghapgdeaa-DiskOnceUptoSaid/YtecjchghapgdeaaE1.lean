/-
  DERIVED. DiskWhole: the law's own functions, call by call.
  Conditions: enough rounds, enough depth.
-/
import Derived.Test.YtecjchghapgdeaaD15
set_option linter.all false
set_option maxHeartbeats 4000000
namespace Go.Proofs.Ytecjchghapgdeaa
namespace Ab
set_option maxRecDepth 100000
set_option maxHeartbeats 8000000
set_option linter.all false
attribute [local simp] wp_region regionA opsA nCall rCall goCallR pCall pnCall lenA convA appendA appRow newsA rowsSz rowsOf isIntD makeSliceA elemOf rowsBuilt eqA eq1

theorem lk2 {hp : Hp} {a b : Nat} {x y : Nat × AO} (h : a ≠ b) : lk (up (up hp a x) b y) a = some x := by rw [lk_set, if_neg h, lk_set, if_pos rfl]
theorem on_new {hp : Hp} {a b nx N M q : Nat} {l : List Nat} (hq : q ≤ 16777216) (hab : a ≠ b) (ha : nx ≤ a) (hb : nx ≤ b) (ha2 : a < M) (hb2 : b < M) (hM : M ≤ N) (hl : ∀ x ∈ l, M ≤ x ∧ x < N) :
    On l b (newDk q) 0 (up (up hp b (0, .cells [.i .i64 (q : Nat), .mp (some a), .vs true 0 [], .i .i64 0])) a (0, .mp [])) N :=
  On.re (l := []) (N := M) ⟨newDk_inv q hq, _, new_rep hab ha hb ha2 hb2 (by rw [lk_set, if_pos rfl]) (lk2 (Ne.symm hab)), by simp⟩ hM hl

theorem c_lives {K n nx : Nat} {hp : Hp} (hK : big K) (hn : 5 ≤ n) : Sp K n 8 [] hp nx fun r _ _ => r = .b true := by
  refine sp_cps fun Q hQ => ?_
  obtain ⟨n, rfl⟩ : ∃ m, n = m + 1 := ⟨n - 1, by omega⟩
  refine sp_of rfl (run_wp Try.func8 rfl (by simp [Try.f8]) ?_)
  have hn4 : 4 ≤ n := by omega
  have e0 : ∀ nx, callA cfg K n 9 [.i .i64 100] [] nx = some (.tup [.ptr (nx + 11) 0 0, .i .i64 0], [(nx + 9, (0, .mp [])), (nx + 11, (0, .cells [.i .i64 100, .mp (some (nx + 9)), .vs true 0 [], .i .i64 0]))], nx + 14) :=
    fun nx => c_pNew1 (K := K) (n := n) (nx := nx) (by omega) 100 (by omega)
  let L : List Nat := [nx + 32, nx + 44]
  have p0 : ∀ N, nx + 45 ≤ N → On L (nx + 18) (newDk 100) 0 (up (up hp (nx + 18) (0, .cells [.i .i64 100, .mp (some (nx + 16)), .vs true 0 [], .i .i64 0])) (nx + 16) (0, .mp [])) N :=
    fun N hN => on_new (nx := nx) (M := nx + 20) (q := 100) (by omega) (by omega) (by omega) (by omega) (by omega) (by omega) (by omega) (by simp [L]; omega)
  obtain ⟨h1, n1, s1⟩ := stp0 (K := K) (n := n) (m' := 1) fun H N (hp : On L (nx + 18) (newDk 100) 0 H N) => o_create hK hn4 hp (by omega) [97]
  obtain ⟨h2, n2, s2⟩ := stpA0 (K := K) (n := n) (m' := 2) fun a H N (hp : OnA L (nx + 18) ((newDk 100).create [97]).2 1 a (byteRows [120, 121, 122]) H N) => o_appendA hK hn4 [97] [120, 121, 122] hp (by omega) (by simp)
  obtain ⟨h3, n3, s3⟩ := stp0 (K := K) (n := n) (m' := 3) fun H N (hp : On L (nx + 18) (((newDk 100).create [97]).2.append [97] [120, 121, 122]).2 2 H N) => o_sync hK hn4 hp (by omega) [97]
  generalize hd1 : ((newDk 100).create [97]).2 = d1 at s1 s2 s3
  generalize hd2 : (d1.append [97] [120, 121, 122]).2 = d2 at s2 s3
  obtain ⟨h4, n4, s4⟩ := stpA0 (K := K) (n := n) (m' := 4) fun a H N (hp : OnA L (nx + 18) (d2.sync [97]).2 3 a (byteRows [117, 118]) H N) => o_appendA hK hn4 [97] [117, 118] hp (by omega) (by simp)
  generalize hd3 : (d2.sync [97]).2 = d3 at s3 s4
  obtain ⟨h5, n5, s5⟩ := stp0 (K := K) (n := n) (m' := 5) fun H N (hp : On L (nx + 18) (d3.append [97] [117, 118]).2 4 H N) => o_syncNames hn4 hp (by omega)
  generalize hd4 : (d3.append [97] [117, 118]).2 = d4 at s4 s5
  generalize hd5 : d4.syncNames.2 = d5 at s5
  obtain ⟨r6, h6, n6, s6⟩ := stpA (K := K) (n := n) (l := []) (k := nx + 18) (m' := 6) (g := 15) (d' := d5.crash [1] 0) (args := fun a => [.ptr (nx + 18) 0 0, .rs a 0 0 1 1, .i .i64 0]) (P := fun a H N => OnA [a] (nx + 18) d5 5 a (intRows [1]) H N) fun a H N hp => by
    obtain ⟨r, H', N', x1, x2, x3⟩ := o_crashA hK hn4 [1] 0 hp (by omega) (by simp)
    exact ⟨r, H', N', x1, x2.nil, x3⟩
  have z1 : ((newDk 100).create [97]).1 = 0 := by decide
  have z2 : (d1.append [97] [120, 121, 122]).1 = 0 := by subst hd1; decide
  have z3 : (d2.sync [97]).1 = 0 := by subst hd1 hd2; decide
  have z4 : (d3.append [97] [117, 118]).1 = 0 := by subst hd1 hd2 hd3; decide
  have z5 : d4.syncNames.1 = 0 := by subst hd1 hd2 hd3 hd4; decide
  have z6 : (d5.crash [1] 0) = ⟨100, [⟨[120, 121, 122, 117], 4⟩], [[([97], 0)]], 0, false⟩ := by subst hd1 hd2 hd3 hd4 hd5; rfl
  rw [z6] at s6
  obtain ⟨a7, g7, h7, n7, e7, l7, _⟩ := sk_read (K := K) (n := n) (l := []) (k := nx + 18) (m := 6) (d := ⟨100, [⟨[120, 121, 122, 117], 4⟩], [[([97], 0)]], 0, false⟩) (s := [97]) (b := [120, 121, 122, 117]) (P := fun H N => On [] (nx + 18) ⟨100, [⟨[120, 121, 122, 117], 4⟩], [[([97], 0)]], 0, false⟩ 6 H N)
    hK hn4 (by simp) (by decide) (by decide) (fun H N h => h)
  generalize (⟨100, [⟨[120, 121, 122, 117], 4⟩], [[([97], 0)]], 0, false⟩ : Dk) = d6 at *
  generalize newDk 100 = d0 at *
  have e1 : ∀ H N, On L (nx + 18) d0 0 H N → callA cfg K n 10 [.ptr (nx + 18) 0 0, .s ⟨#[97]⟩] H N = some (.i .i64 0, h1 H N, n1 H N) := by have := s1.e; rw [z1] at this; exact this
  have e2 : ∀ a H N, OnA L (nx + 18) d1 1 a [[.i .u8 120], [.i .u8 121], [.i .u8 122]] H N → callA cfg K n 11 [.ptr (nx + 18) 0 0, .s ⟨#[97]⟩, .rs a 0 0 3 1] H N = some (.i .i64 0, h2 a H N, n2 a H N) := by have := s2.e; rw [z2] at this; exact this
  have e3 : ∀ H N, On L (nx + 18) d2 2 H N → callA cfg K n 12 [.ptr (nx + 18) 0 0, .s ⟨#[97]⟩] H N = some (.i .i64 0, h3 H N, n3 H N) := by have := s3.e; rw [z3] at this; exact this
  have e4 : ∀ a H N, OnA L (nx + 18) d3 3 a [[.i .u8 117], [.i .u8 118]] H N → callA cfg K n 11 [.ptr (nx + 18) 0 0, .s ⟨#[97]⟩, .rs a 0 0 2 1] H N = some (.i .i64 0, h4 a H N, n4 a H N) := by have := s4.e; rw [z4] at this; exact this
  have e5 : ∀ H N, On L (nx + 18) d4 4 H N → callA cfg K n 13 [.ptr (nx + 18) 0 0] H N = some (.i .i64 0, h5 H N, n5 H N) := by have := s5.e; rw [z5] at this; exact this
  have q1 := s1.sl
  have q1' : ∀ H N a rows, On L (nx + 18) d0 0 H N → a ∈ L → OnA L (nx + 18) d1 1 a rows (up (h1 H N) a (0, .arr 1 rows)) (n1 H N) := fun H N a rows => s1.sl H N a 0 rows
  have q2 : ∀ a H N c, OnA L (nx + 18) d1 1 a [[.i .u8 120], [.i .u8 121], [.i .u8 122]] H N → On L (nx + 18) d2 2 (h2 a H N) (n2 a H N + c) := s2.add
  have q2' : ∀ a H N, OnA L (nx + 18) d1 1 a [[.i .u8 120], [.i .u8 121], [.i .u8 122]] H N → On L (nx + 18) d2 2 (h2 a H N) (n2 a H N) := s2.on
  have q3 := s3.sl
  have q3' : ∀ H N a rows, On L (nx + 18) d2 2 H N → a ∈ L → OnA L (nx + 18) d3 3 a rows (up (h3 H N) a (0, .arr 1 rows)) (n3 H N) := fun H N a rows => s3.sl H N a 0 rows
  have q4 : ∀ a H N c, OnA L (nx + 18) d3 3 a [[.i .u8 117], [.i .u8 118]] H N → On L (nx + 18) d4 4 (h4 a H N) (n4 a H N + c) := s4.add
  have q5 := s5.ne
  have e6 : ∀ a H N, OnA [a] (nx + 18) d5 5 a [[.i .i64 1]] H N → callA cfg K n 15 [.ptr (nx + 18) 0 0, .rs a 0 0 1 1, .i .i64 0] H N = some (r6 a H N, h6 a H N, n6 a H N) := s6.e
  have q6 : ∀ a H N c, OnA [a] (nx + 18) d5 5 a [[.i .i64 1]] H N → On [] (nx + 18) d6 6 (h6 a H N) (n6 a H N + c) := s6.add
  have e7' : ∀ H N, On [] (nx + 18) d6 6 H N → callA cfg K n 16 [.ptr (nx + 18) 0 0, .s ⟨#[97]⟩] H N = some (.tup [.rs (a7 H N) (g7 H N) 0 4 1, .i .i64 0], h7 H N, n7 H N) := e7
  have l7' : ∀ H N, On [] (nx + 18) d6 6 H N → lk (h7 H N) (a7 H N) = some (g7 H N, .arr 1 [[.i .u8 120], [.i .u8 121], [.i .u8 122], [.i .u8 117]]) := l7
  have b7 : bytesOf [[.i .u8 120], [.i .u8 121], [.i .u8 122], [.i .u8 117]] = some [120, 121, 122, 117] := bytesOf_rows [120, 121, 122, 117]
  have mL1 : nx + 32 ∈ L := by simp [L]
  have mL2 : nx + 44 ∈ L := by simp [L]
  clear s1 s2 s3 s4 s5 s6 e7 l7
  clear_value L
  simp (maxDischargeDepth := 8) [e0, p0, e1, q1, q1', e2, q2, q2', e3, q3, q3', e4, q4, e5, q5, e6, q6, e7', l7', b7, mL1, mL2, up_up, lk_set, Nat.add_assoc]
  exact hQ _ _ _ rfl

theorem p_lives {K n : Nat} (hK : big K) (hn : 5 ≤ n) : pR (callA cfg K n) 8 [] = some (.b true) := by
  obtain ⟨n, rfl⟩ : ∃ m, n = m + 1 := ⟨n - 1, by omega⟩
  obtain ⟨r, hp', nx', h1, h2⟩ := c_lives (K := K) (n := n + 1) (hp := []) (nx := 0) hK hn
  unfold pR
  rw [h1, h2]
  rfl

end Ab
end Go.Proofs.Ytecjchghapgdeaa
