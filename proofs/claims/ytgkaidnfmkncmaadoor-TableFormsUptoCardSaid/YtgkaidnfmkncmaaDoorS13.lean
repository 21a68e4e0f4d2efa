/-
  DERIVED. lockstepref08.Forms of two forms that hold the same, lockstepref08.Plain: what they come to.
  Conditions: lists shorter than the rounds that are let.
-/
import Derived.Test.YtgkaidnfmkncmaaDoorS12
set_option linter.all false
set_option maxHeartbeats 4000000
namespace Go.Proofs.YtgkaidnfmkncmaaDoor
namespace Ab
open Go.Lib
set_option maxRecDepth 100000
set_option maxHeartbeats 4000000

/-- What a key says. -/
def Key.core (k : Key) : ByteArray × List Int × Bool := (k.n, k.cs, k.u)
/-- Two forms that hold the same. -/
structure Like (a b : Tab) : Prop where
  n : a.n = b.n
  c : a.cols = b.cols
  k : a.keys.map Key.core = b.keys.map Key.core
  p : a.part = b.part
  m : a.most = b.most

@[simp] theorem stood51 : Program.stoodInHeld Tryd.prog 51 = false := by kernel_rfl
@[simp] theorem guard51 : Program.eqGuardType Tryd.prog (Program.depth Tryd.prog) 51 = false := by kernel_rfl
@[simp] theorem ba_self (a : ByteArray) : (a == a) = true := by
  show (a.data == a.data) = true
  simp

theorem col_eq (c : Col) : eqA Tryd.prog 51 (.agg c.row) (.agg c.row) = some true := by
  simp [eqA, eqFs, eq1, Col.row, isAgg]

theorem run10 (call : CallT) (k : Nat) (a b : Tab) (m : Nat) (ok : a.Ok m) (hm : m ≤ 2 ^ 40) (hk : m ≤ k) (h : Like a b) : Ends cfg call k 10 [.agg a.row, .agg b.row] [] 0 fun x _ _ => x = .b true := by
  obtain ⟨an, ac, ak, cols, ks, ap, am⟩ := a
  obtain ⟨bn, bc, bk, cols', ks', bp, bm⟩ := b
  obtain ⟨h1, h2, h3, h4, h5⟩ := h
  simp only at h1 h2 h3 h4 h5
  subst h1 h2 h4 h5
  have okl : cols.length < m := ok.cl
  have okk : ks.length < m := ok.kl
  have hkl : ks'.length = ks.length := by
    have := congrArg List.length h3
    simpa using this.symm
  refine run_wp Tryd.func10 rfl (by simp [Tryd.f10]) ?_
  simp [Tab.row, hkl]
  refine loop_wp (ι := Nat × Nat) (fun i => { env := [(2, .lp 2 0 0), (3, .lp 3 1 0), (5, .i .i64 (i.1 : Nat))], loc := [(2, 0, .cells [.s an, .vs ac 4 (cols.map Col.row), .vs ak 3 (ks.map Key.row), .i .i64 ap, .i .i64 am]), (3, 1, .cells [.s an, .vs bc 4 (cols.map Col.row), .vs bk 3 (ks'.map Key.row), .i .i64 ap, .i .i64 am])], hp := [], nx := i.2 }) (fun i => cols.length - i.1)
    (fun i => i.1 ≤ cols.length) (0, _) rfl (Nat.zero_le _) (by simp only; omega) ?_
  rintro Next ⟨i, nx⟩ hp hnext
  simp only at hp hnext ⊢
  by_cases hi : i < cols.length
  · have c1 : (i : Int) < cols.length := by omega
    have c2 : (0 : Int) ≤ i := by omega
    have c3 : IntKind.i64.wrap ((i : Int) + 1) = i + 1 := wrap_i64 (by omega) (by omega)
    simp [c1, c2, c3, hi, col_eq]
    refine ⟨⟨by kernel_rfl, by kernel_rfl⟩, ?_⟩
    exact hnext (i + 1, _) (by simp only; omega) hi
  · obtain rfl : i = cols.length := by omega
    simp
    refine loop_wp (ι := Nat × Nat) (fun i => { env := [(2, .lp 2 0 0), (3, .lp 3 1 0), (6, .i .i64 (i.1 : Nat))], loc := [(2, 0, .cells [.s an, .vs ac 4 (cols.map Col.row), .vs ak 3 (ks.map Key.row), .i .i64 ap, .i .i64 am]), (3, 1, .cells [.s an, .vs bc 4 (cols.map Col.row), .vs bk 3 (ks'.map Key.row), .i .i64 ap, .i .i64 am])], hp := [], nx := i.2 }) (fun i => ks.length - i.1)
      (fun i => i.1 ≤ ks.length) (0, _) rfl (Nat.zero_le _) (by simp only; omega) ?_
    rintro Next2 ⟨i, nx2⟩ hp2 hnext2
    simp only at hp2 hnext2 ⊢
    by_cases hi : i < ks.length
    · have c1 : (i : Int) < ks.length := by omega
      have c2 : (0 : Int) ≤ i := by omega
      have c3 : IntKind.i64.wrap ((i : Int) + 1) = i + 1 := wrap_i64 (by omega) (by omega)
      have hi' : i < ks'.length := by omega
      obtain ⟨x, hx⟩ : ∃ x, ks[i] = x := ⟨_, rfl⟩
      obtain ⟨y, hy⟩ : ∃ y, ks'[i] = y := ⟨_, rfl⟩
      have hcore : x.core = y.core := by
        have := congrArg (fun l => l[i]?) h3
        simp only [List.getElem?_map, List.getElem?_eq_getElem hi, List.getElem?_eq_getElem hi', Option.map_some, hx, hy] at this
        injection this
      have okx : x.cs.length < m := by rw [← hx]; exact (ok.k _ (List.getElem_mem hi)).c
      obtain ⟨xn, xz, xcs, xu⟩ := x
      obtain ⟨yn, yz, ycs, yu⟩ := y
      simp only [Key.core, Prod.mk.injEq] at hcore
      obtain ⟨e1, e2, e3⟩ := hcore
      subst e1 e2 e3
      simp only at okx
      simp [c1, c2, c3, hi, hi', hx, hy, Key.row, ints_len, eqA, eq1]
      refine ⟨⟨by kernel_rfl, by kernel_rfl⟩, ?_⟩
      refine loop_wp (ι := Nat × Nat) (fun j => { env := [(2, .lp 2 0 0), (3, .lp 3 1 0), (6, .i .i64 (i : Nat)), (7, .lp 7 (nx2 + 5 + 10) 0), (8, .lp 8 (nx2 + 5 + 11) 0), (9, .i .i64 (j.1 : Nat))], loc := [(2, 0, .cells [.s an, .vs ac 4 (cols.map Col.row), .vs ak 3 (ks.map Key.row), .i .i64 ap, .i .i64 am]), (3, 1, .cells [.s an, .vs bc 4 (cols.map Col.row), .vs bk 3 (ks'.map Key.row), .i .i64 ap, .i .i64 am]), (7, nx2 + 5 + 10, .cells [.s xn, .vs xz 1 (ints xcs), .b xu]), (8, nx2 + 5 + 11, .cells [.s xn, .vs yz 1 (ints xcs), .b xu])], hp := [], nx := j.2 }) (fun j => xcs.length - j.1)
        (fun j => j.1 ≤ xcs.length) (0, _) rfl (Nat.zero_le _) (by simp only; omega) ?_
      rintro Next3 ⟨j, nx3⟩ hp3 hnext3
      simp only at hp3 hnext3 ⊢
      by_cases hj : j < xcs.length
      · have d1 : (j : Int) < xcs.length := by omega
        have d2 : (0 : Int) ≤ j := by omega
        have d3 : IntKind.i64.wrap ((j : Int) + 1) = j + 1 := wrap_i64 (by omega) (by omega)
        have hg : (ints xcs)[j]? = some [.i .i64 xcs[j]] := ints_get (List.getElem?_eq_getElem hj)
        simp [d1, d2, d3, hg, ints_len]
        refine ⟨⟨by kernel_rfl, by kernel_rfl⟩, ?_⟩
        exact hnext3 (j + 1, _) (by simp only; omega) hj
      · obtain rfl : j = xcs.length := by omega
        simp [ints_len, c3]
        exact hnext2 (i + 1, _) (by simp only; omega) hi
    · obtain rfl : i = ks.length := by omega
      simp

theorem run15 (call : CallT) (k : Nat) (t : Tab) : Ends cfg call k 15 [.agg t.row] [] 0 fun x _ _ => x = .agg (Tab.row { t with part := if t.part < 0 then -1 else t.part }) := by
  refine run_wp Tryd.func15 rfl (by simp [Tryd.f15]) ?_
  by_cases h : t.part < 0
  · simp [Tab.row, h]
  · simp [Tab.row, h]

end Ab
end Go.Proofs.YtgkaidnfmkncmaaDoor
