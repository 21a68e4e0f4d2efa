/-
  DERIVED. DiskWhole: the plain law at typed arguments.
  Conditions: bulk at most 2^20.
-/
import Derived.Test.YtecjchghapgdeaaA1
import Derived.Test.YtecjchghapgdeaaE3
set_option linter.all false
set_option maxHeartbeats 4000000
namespace Go.Proofs.Ytecjchghapgdeaa
namespace Ab
set_option maxRecDepth 100000
set_option linter.all false

theorem plainWhole : Plain cfg (2 ^ 20) 8 3 [22, 22, 5, 23, 3] := by
  intro xs hl hty hbulk
  match xs, hl with
  | [x0, x1, x2, x3, x4], _ =>
    have h0 := hty 0 22 x0 rfl rfl
    have h1 := hty 1 22 x1 rfl rfl
    have h2 := hty 2 5 x2 rfl rfl
    have h3 := hty 3 23 x3 rfl rfl
    have h4 := hty 4 3 x4 rfl rfl
    unfold ArgOf at h0 h1 h2 h3 h4
    simp only [cP, underlying_22, underlying_5, underlying_23, underlying_3] at h0 h1 h2 h3 h4
    obtain ⟨za, a, e0, ha⟩ := ty22 (n := 6) h0
    obtain ⟨zb, b, e1, hb⟩ := ty22 (n := 6) h1
    obtain ⟨t, e2⟩ := ty5 (n := 7) h2
    obtain ⟨zk, ks, e3, hk, _⟩ := ty23 (n := 6) h3
    obtain ⟨nm, e4, _⟩ := ty3 (n := 7) h4
    cases e0; cases e1; cases e2; cases e3; cases e4
    have hs := hbulk 8
    simp only [List.map_cons, List.map_nil, List.sum_cons, List.sum_nil] at hs
    have b0 : a.length + 1 ≤ bulkL 8 _ := bulk_bytes (n := 7) (z := za) (l := a)
    have b1 : b.length + 1 ≤ bulkL 8 _ := bulk_bytes (n := 7) (z := zb) (l := b)
    have b3 : ks.length + 1 ≤ bulkL 8 _ := bulk_ints (n := 7) (z := zk) (l := ks)
    have ht : t.toNat < 256 := t.toNat_lt
    obtain ⟨r, hp', nx', h5, h6⟩ := c_Whole (K := 2 ^ 26) (n := 6) (nx := 0) (hp := []) (Nat.le_refl _) (Nat.le_refl _) za zb zk a b ks (t.toNat : Int) nm ha hb hk (by omega) (by omega) (by omega) (by omega)
    subst h6
    exact ⟨_, _, _, _, h5⟩

end Ab
end Go.Proofs.Ytecjchghapgdeaa
