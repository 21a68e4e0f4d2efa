/-
  DERIVED. DiskWhole: the law's function.
  Conditions: enough rounds, enough depth.
-/
import Derived.Test.YtecjchghapgdeaaE1
set_option linter.all false
set_option maxHeartbeats 4000000
namespace Go.Proofs.Ytecjchghapgdeaa
namespace Ab
set_option maxRecDepth 100000
set_option maxHeartbeats 8000000
set_option linter.all false
attribute [local simp] appendA appRow newsA isIntD makeSliceA elemOf rowsBuilt eqA eq1

theorem conv_u8 (get : Ref → Option AO) (m : Int) (n : Nat) : convA Try.prog get 5 3 (.i .u8 m) n = some (.i .i64 (IntKind.i64.wrap m), []) := by
  simp [convA]
theorem conv_bytes {get : Ref → Option AO} {v : AV} {b : Bs} (n : Nat) (h : rowsSz get 1 v = some (byteRows b)) : convA Try.prog get 22 9 v n = some (.s (ba b), []) := by
  cases v <;> first
    | (simp [rowsSz, rowsOf] at h; done)
    | (simp [convA, h, bytesOf_rows, ba])
theorem conv_vs {get : Ref → Option AO} {z : Bool} {b : Bs} (hz : z = true → b = []) (n : Nat) : convA Try.prog get 22 9 (.vs z 1 (byteRows b)) n = some (.s (ba b), []) := by
  refine conv_bytes n ?_
  cases z with
  | false => simp [rowsSz]
  | true => simp [rowsSz, hz rfl, byteRows]

variable {K n m k : Nat} {d : Dk} {l : List Nat}
theorem sk_read' {P : Hp → Nat → Prop} {s b : Bs} (hK : big K) (hn : 4 ≤ n) (hl : (d.look s).1 = 0) (hl2 : ((d.look s).2.getD ⟨[], 0⟩).b = b) (h : ∀ H N, P H N → On l k d m H N) :
    ∃ (v : Hp → Nat → AV) (h1 : Hp → Nat → Hp) (n1 : Hp → Nat → Nat), (∀ H N, P H N → callA cfg K n 16 [.ptr k 0 0, .s (ba s)] H N = some (.tup [v H N, .i .i64 0], h1 H N, n1 H N)) ∧
      (∀ H N env loc nx n, P H N → convA Try.prog (St.get ⟨env, loc, h1 H N, nx⟩) 22 9 (v H N) n = some (.s (ba b), [])) ∧ (∀ H N, P H N → (v H N).mv = true) ∧ ∀ H N c, P H N → On l k d m (h1 H N) (n1 H N + c) := by
  obtain ⟨r, h1, n1, x, h2⟩ := sk' (K := K) (n := n) (g := 16) (args := [.ptr k 0 0, .s (ba s)]) (X := AV) (P := P) (Q := fun H N r H' N' x => r = .tup [x, .i .i64 0] ∧ x.mv = true ∧ (∀ env loc nx, rowsSz (St.get ⟨env, loc, H', nx⟩) 1 x = some (byteRows b)) ∧ On l k d m H' N') fun H N hp => by
    obtain ⟨v, H', N', e1, e2, e3, e4⟩ := o_read hK hn (h H N hp) s
    rw [hl2, hl] at *
    refine ⟨_, H', N', e1, v, rfl, by rcases e4 with ⟨e5, e6⟩ | ⟨a, g, e5, e6, _⟩ <;> (rw [‹v = _›]; rfl), fun env loc nx => ?_, e2⟩
    rcases e4 with ⟨e5, e6⟩ | ⟨a, g, e5, e6, _⟩
    · subst e5 e6; simp [rowsSz, byteRows]
    · subst e5; simp [rowsSz, rowsOf, St.get, e6, List.take_of_length_le]
  exact ⟨x, h1, n1, fun H N hp => by rw [(h2 H N hp).1, (h2 H N hp).2.1], fun H N env loc nx n hp => conv_bytes n ((h2 H N hp).2.2.2.1 env loc nx), fun H N hp => (h2 H N hp).2.2.1, fun H N c hp => (h2 H N hp).2.2.2.2.add (by omega)⟩

/-- 'it', 'it.new'. -/
def tIt : Bs := [105, 116]
def tNew : Bs := [105, 116, 46, 110, 101, 119]
def wD0 : Dk := newDk 16777216
def wD1 : Dk := ⟨16777216, [⟨[], 0⟩], [[], [(tIt, 0)]], 0, false⟩
def wD2 (a : Bs) : Dk := ⟨16777216, [⟨a, 0⟩], [[], [(tIt, 0)]], 0, false⟩
def wD3 (a : Bs) : Dk := ⟨16777216, [⟨a, a.length⟩], [[], [(tIt, 0)]], 0, false⟩
def wD4 (a : Bs) : Dk := ⟨16777216, [⟨a, a.length⟩], [[(tIt, 0)]], 0, false⟩
def wD5 (a : Bs) : Dk := ⟨16777216, [⟨a, a.length⟩, ⟨[], 0⟩], [[(tIt, 0)], [(tIt, 0), (tNew, 1)]], 0, false⟩
def wD6 (a b : Bs) : Dk := ⟨16777216, [⟨a, a.length⟩, ⟨b, 0⟩], [[(tIt, 0)], [(tIt, 0), (tNew, 1)]], 0, false⟩
def wD7 (a b : Bs) : Dk := ⟨16777216, [⟨a, a.length⟩, ⟨b, b.length⟩], [[(tIt, 0)], [(tIt, 0), (tNew, 1)]], 0, false⟩
def wD8 (a b : Bs) : Dk := ⟨16777216, [⟨a, a.length⟩, ⟨b, b.length⟩], [[(tIt, 0)], [(tIt, 0), (tNew, 1)], [(tIt, 1)]], 0, false⟩
def wD9 (a b : Bs) : Dk := ⟨16777216, [⟨a, a.length⟩, ⟨b, b.length⟩], [[(tIt, 1)]], 0, false⟩

theorem w1 : wD0.create tIt = (0, wD1) := rfl
theorem w2 (a : Bs) (h : a.length ≤ 16777216) : wD1.append tIt a = (0, wD2 a) := by
  show (if 16777216 < 0 + a.length then (42, wD1) else (0, wD2 a)) = _
  rw [if_neg (by omega)]
theorem w3 (a : Bs) : (wD2 a).sync tIt = (0, wD3 a) := rfl
theorem w4 (a : Bs) : (wD3 a).syncNames = (0, wD4 a) := rfl
theorem w5 (a : Bs) : (wD4 a).create tNew = (0, wD5 a) := rfl
theorem w6 (a b : Bs) (h : a.length + b.length ≤ 16777216) : (wD5 a).append tNew b = (0, wD6 a b) := by
  show (if 16777216 < a.length + (0 + 0) + b.length then (42, wD5 a) else (0, wD6 a b)) = _
  rw [if_neg (by omega)]
theorem w7 (a b : Bs) : (wD6 a b).sync tNew = (0, wD7 a b) := rfl
theorem w8 (a b : Bs) : (wD7 a b).rename tNew tIt = (0, wD8 a b) := rfl
theorem w9 (a b : Bs) : (wD8 a b).syncNames = (0, wD9 a b) := rfl

theorem crash_fast {x : Fl} (k : Int) (h : x.fast = x.b.length) : x.crash k = x := by
  unfold Fl.crash
  rw [if_neg (by omega)]
  cases x; simp only at h; subst h; rfl
theorem file_crash0 {keeps : List Int} : ∀ {w : Way} {a : Nat} {fs : List Fl} {i : Nat} {x : Fl}, fs[i]? = some x → x.fast = x.b.length → (crashF keeps w a fs)[i]? = some x
  | [], _, _, _, _, h, _ => h
  | e :: w, a, fs, i, x, h, hf => by
    simp only [crashF]
    refine file_crash0 ?_ hf
    by_cases he : e.2 = i
    · subst he
      rw [h, Option.getD_some, crash_fast _ hf, List.getElem?_set_self (List.getElem?_eq_some_iff.1 h).1]
    · rw [List.getElem?_set_ne he]; exact h

theorem look_crash {d : Dk} {keeps : List Int} {names : Int} {s b : Bs} {i : Nat} (hs : nameOk s = true) (hi : findW (d.ways[leftN names d.ways.length]?.getD []) s = some i) (hf : d.files[i]? = some ⟨b, b.length⟩) :
    (d.crash keeps names).look s = (0, some ⟨b, b.length⟩) := by
  have h1 : (d.crash keeps names).now = d.ways[leftN names d.ways.length]?.getD [] := rfl
  have h2 : (d.crash keeps names).file i = ⟨b, b.length⟩ := by
    show (crashF _ _ _ _)[i]?.getD _ = _
    rw [file_crash0 hf rfl]; rfl
  unfold Dk.look
  rw [h1, hi, hs]
  simp [h2]

theorem leftN1 (k : Int) : leftN k 1 = 0 := by have := leftN_lt k (show 0 < 1 by omega); omega
end Ab
end Go.Proofs.Ytecjchghapgdeaa
