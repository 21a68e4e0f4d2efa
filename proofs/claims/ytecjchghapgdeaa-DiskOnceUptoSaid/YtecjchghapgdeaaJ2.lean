/-
  DERIVED. One call on both disks of a pair.
  Conditions: enough rounds, enough depth; a disk of bounded size.
-/
import Derived.Test.YtecjchghapgdeaaJ1
set_option linter.all false
set_option maxHeartbeats 4000000
namespace Go.Proofs.Ytecjchghapgdeaa
namespace Ab
set_option maxRecDepth 100000
set_option maxHeartbeats 8000000
set_option linter.all false
attribute [local simp] wp_regW opsW_nil opsW_cons opsK_eq regK_no regK_draw oW_n oW_h oW_r oW_pn convA appendA appRow newsA rowsSz rowsOf isIntD makeSliceA elemOf rowsBuilt eqA eq1

def ActD.ok (a : ActD) : Prop := a.name.length ≤ 2 ^ 40 ∧ a.to.length ≤ 2 ^ 40 ∧ a.b.length ≤ 2 ^ 30 ∧ a.keeps.length ≤ 2 ^ 30 ∧ -9223372036854775808 ≤ a.n ∧ a.n ≤ 9223372036854775807
def actV (a : ActD) (zb zk : Bool) : List AV := [.i .i64 a.kind, .s (ba a.name), .s (ba a.to), .vs zb 1 (byteRows a.b), .i .i64 a.n, .vs zk 1 (intRows a.keeps)]
def DoesQ (hp : Hp) (nx x : Nat) (S : Nat → Prop) (d' : Dk) (r : AV) (hp' : Hp) (nx' : Nat) : Prop := r = .b true ∧ ∃ S', (∀ j, S' j → grw S nx nx' j) ∧ Pr hp' nx' x d' S' ∧ Frm S hp nx hp' nx'

theorem c_Does0 {K n m : Nat} (hK : big K) (hn : 5 ≤ n) {d : Dk} {hp : Hp} {nx x : Nat} {S : Nat → Prop} (hI : d.Inv m) (hm : m ≤ 2 ^ 20) (h : Pr hp nx x d S) (a : ActD) (ha : a.ok) (zb zk : Bool) (hk : a.kind = 0) :
    Sp K n 27 [.ptr x 0 0, .agg (actV a zb zk)] hp nx (DoesQ hp nx x S (d.create a.name).2) := by
  refine sp_cps fun Q hQ => ?_
  obtain ⟨n, rfl⟩ : ∃ m, n = m + 1 := ⟨n - 1, by omega⟩
  obtain ⟨p, q, Sp, Sq, h, hS⟩ := h
  refine sp_of rfl (run_wp Try.func27 rfl (by simp [Try.f27]) ?_)
  have hc := h.cell
  simp [actV, hk, hc]
  refine (c_pCreate hK (by omega) hI (by omega) ((h.add (by omega)).prep) a.name).cW ?_
  rintro _ hp1 n1 ⟨rfl, h1, f1⟩
  have hA : PairAt hp1 n1 x p q _ d _ Sq := h.mid (by omega) (fun _ _ => rfl) h1 f1 (Nat.le_refl _) fun _ _ => rfl
  simp [hA.cell]
  refine (c_dCreate hK (by omega) hI (by omega) ((hA.add (by omega)).drep) a.name ha.1).cW ?_
  rintro _ hp2 n2 ⟨rfl, e2⟩
  simp
  refine ⟨⟨by kernel_rfl, by simp [dynOk, pairsOk, befOf, Region.binds, Eff.apart, Eff.clear, Eff.wkeys, Ref.key, AV.refs0, List.range, List.range.loop, sameAt, hA.cell, hc]⟩, ?_⟩
  refine hQ _ _ _ ⟨rfl, ?_⟩
  exact h.both hS (by omega) (fun _ _ => rfl) h1 f1 (by omega) (fun _ _ => rfl) e2 (by omega)

theorem c_Does2 {K n m : Nat} (hK : big K) (hn : 5 ≤ n) {d : Dk} {hp : Hp} {nx x : Nat} {S : Nat → Prop} (hI : d.Inv m) (hm : m ≤ 2 ^ 20) (h : Pr hp nx x d S) (a : ActD) (ha : a.ok) (zb zk : Bool) (hk : a.kind = 2) :
    Sp K n 27 [.ptr x 0 0, .agg (actV a zb zk)] hp nx (DoesQ hp nx x S (d.cut a.name a.n).2) := by
  refine sp_cps fun Q hQ => ?_
  obtain ⟨n, rfl⟩ : ∃ m, n = m + 1 := ⟨n - 1, by omega⟩
  obtain ⟨p, q, Sp, Sq, h, hS⟩ := h
  refine sp_of rfl (run_wp Try.func27 rfl (by simp [Try.f27]) ?_)
  have hc := h.cell
  simp [actV, hk, hc]
  refine (c_pCut hK (by omega) hI ((h.add (by omega)).prep) a.name a.n).cW ?_
  rintro _ hp1 n1 ⟨rfl, h1, f1⟩
  have hA : PairAt hp1 n1 x p q _ d _ Sq := h.mid (by omega) (fun _ _ => rfl) h1 f1 (Nat.le_refl _) fun _ _ => rfl
  simp [hA.cell]
  refine (c_dCut hK (by omega) hI (by omega) ((hA.add (by omega)).drep) a.name ha.1 a.n).cW ?_
  rintro _ hp2 n2 ⟨rfl, e2⟩
  simp
  refine ⟨⟨by kernel_rfl, by simp [dynOk, pairsOk, befOf, Region.binds, Eff.apart, Eff.clear, Eff.wkeys, Ref.key, AV.refs0, List.range, List.range.loop, sameAt, hA.cell, hc]⟩, ?_⟩
  refine hQ _ _ _ ⟨rfl, ?_⟩
  exact h.both hS (by omega) (fun _ _ => rfl) h1 f1 (by omega) (fun _ _ => rfl) e2 (by omega)

theorem c_Does3 {K n m : Nat} (hK : big K) (hn : 5 ≤ n) {d : Dk} {hp : Hp} {nx x : Nat} {S : Nat → Prop} (hI : d.Inv m) (hm : m ≤ 2 ^ 20) (h : Pr hp nx x d S) (a : ActD) (ha : a.ok) (zb zk : Bool) (hk : a.kind = 3) :
    Sp K n 27 [.ptr x 0 0, .agg (actV a zb zk)] hp nx (DoesQ hp nx x S (d.rename a.name a.to).2) := by
  refine sp_cps fun Q hQ => ?_
  obtain ⟨n, rfl⟩ : ∃ m, n = m + 1 := ⟨n - 1, by omega⟩
  obtain ⟨p, q, Sp, Sq, h, hS⟩ := h
  refine sp_of rfl (run_wp Try.func27 rfl (by simp [Try.f27]) ?_)
  have hc := h.cell
  simp [actV, hk, hc]
  refine (c_pRename hK (by omega) hI (by omega) ((h.add (by omega)).prep) a.name a.to).cW ?_
  rintro _ hp1 n1 ⟨rfl, h1, f1⟩
  have hA : PairAt hp1 n1 x p q _ d _ Sq := h.mid (by omega) (fun _ _ => rfl) h1 f1 (Nat.le_refl _) fun _ _ => rfl
  simp [hA.cell]
  refine (c_dRename hK (by omega) hI (by omega) ((hA.add (by omega)).drep) a.name a.to ha.1 ha.2.1).cW ?_
  rintro _ hp2 n2 ⟨rfl, e2⟩
  simp
  refine ⟨⟨by kernel_rfl, by simp [dynOk, pairsOk, befOf, Region.binds, Eff.apart, Eff.clear, Eff.wkeys, Ref.key, AV.refs0, List.range, List.range.loop, sameAt, hA.cell, hc]⟩, ?_⟩
  refine hQ _ _ _ ⟨rfl, ?_⟩
  exact h.both hS (by omega) (fun _ _ => rfl) h1 f1 (by omega) (fun _ _ => rfl) e2 (by omega)

theorem c_Does4 {K n m : Nat} (hK : big K) (hn : 5 ≤ n) {d : Dk} {hp : Hp} {nx x : Nat} {S : Nat → Prop} (hI : d.Inv m) (hm : m ≤ 2 ^ 20) (h : Pr hp nx x d S) (a : ActD) (ha : a.ok) (zb zk : Bool) (hk : a.kind = 4) :
    Sp K n 27 [.ptr x 0 0, .agg (actV a zb zk)] hp nx (DoesQ hp nx x S (d.remove a.name).2) := by
  refine sp_cps fun Q hQ => ?_
  obtain ⟨n, rfl⟩ : ∃ m, n = m + 1 := ⟨n - 1, by omega⟩
  obtain ⟨p, q, Sp, Sq, h, hS⟩ := h
  refine sp_of rfl (run_wp Try.func27 rfl (by simp [Try.f27]) ?_)
  have hc := h.cell
  simp [actV, hk, hc]
  refine (c_pRemove hK (by omega) hI (by omega) ((h.add (by omega)).prep) a.name).cW ?_
  rintro _ hp1 n1 ⟨rfl, h1, f1⟩
  have hA : PairAt hp1 n1 x p q _ d _ Sq := h.mid (by omega) (fun _ _ => rfl) h1 f1 (Nat.le_refl _) fun _ _ => rfl
  simp [hA.cell]
  refine (c_dRemove hK (by omega) hI (by omega) ((hA.add (by omega)).drep) a.name ha.1).cW ?_
  rintro _ hp2 n2 ⟨rfl, e2⟩
  simp
  refine ⟨⟨by kernel_rfl, by simp [dynOk, pairsOk, befOf, Region.binds, Eff.apart, Eff.clear, Eff.wkeys, Ref.key, AV.refs0, List.range, List.range.loop, sameAt, hA.cell, hc]⟩, ?_⟩
  refine hQ _ _ _ ⟨rfl, ?_⟩
  exact h.both hS (by omega) (fun _ _ => rfl) h1 f1 (by omega) (fun _ _ => rfl) e2 (by omega)

theorem c_Does5 {K n m : Nat} (hK : big K) (hn : 5 ≤ n) {d : Dk} {hp : Hp} {nx x : Nat} {S : Nat → Prop} (hI : d.Inv m) (hm : m ≤ 2 ^ 20) (h : Pr hp nx x d S) (a : ActD) (ha : a.ok) (zb zk : Bool) (hk : a.kind = 5) :
    Sp K n 27 [.ptr x 0 0, .agg (actV a zb zk)] hp nx (DoesQ hp nx x S (d.sync a.name).2) := by
  refine sp_cps fun Q hQ => ?_
  obtain ⟨n, rfl⟩ : ∃ m, n = m + 1 := ⟨n - 1, by omega⟩
  obtain ⟨p, q, Sp, Sq, h, hS⟩ := h
  refine sp_of rfl (run_wp Try.func27 rfl (by simp [Try.f27]) ?_)
  have hc := h.cell
  simp [actV, hk, hc]
  refine (c_pSync hK (by omega) hI ((h.add (by omega)).prep) a.name).cW ?_
  rintro _ hp1 n1 ⟨rfl, h1, f1⟩
  have hA : PairAt hp1 n1 x p q _ d _ Sq := h.mid (by omega) (fun _ _ => rfl) h1 f1 (Nat.le_refl _) fun _ _ => rfl
  simp [hA.cell]
  refine (c_dSync hK (by omega) hI (by omega) ((hA.add (by omega)).drep) a.name ha.1).cW ?_
  rintro _ hp2 n2 ⟨rfl, e2⟩
  simp
  refine ⟨⟨by kernel_rfl, by simp [dynOk, pairsOk, befOf, Region.binds, Eff.apart, Eff.clear, Eff.wkeys, Ref.key, AV.refs0, List.range, List.range.loop, sameAt, hA.cell, hc]⟩, ?_⟩
  refine hQ _ _ _ ⟨rfl, ?_⟩
  exact h.both hS (by omega) (fun _ _ => rfl) h1 f1 (by omega) (fun _ _ => rfl) e2 (by omega)

theorem c_Does6 {K n m : Nat} (hK : big K) (hn : 5 ≤ n) {d : Dk} {hp : Hp} {nx x : Nat} {S : Nat → Prop} (hI : d.Inv m) (hm : m ≤ 2 ^ 20) (h : Pr hp nx x d S) (a : ActD) (ha : a.ok) (zb zk : Bool) (hk : a.kind = 6) :
    Sp K n 27 [.ptr x 0 0, .agg (actV a zb zk)] hp nx (DoesQ hp nx x S d.syncNames.2) := by
  refine sp_cps fun Q hQ => ?_
  obtain ⟨n, rfl⟩ : ∃ m, n = m + 1 := ⟨n - 1, by omega⟩
  obtain ⟨p, q, Sp, Sq, h, hS⟩ := h
  refine sp_of rfl (run_wp Try.func27 rfl (by simp [Try.f27]) ?_)
  have hc := h.cell
  simp [actV, hk, hc]
  refine (c_pSyncNames (by omega) hI ((h.add (by omega)).prep)).cW ?_
  rintro _ hp1 n1 ⟨rfl, h1, f1⟩
  have hA : PairAt hp1 n1 x p q _ d _ Sq := h.mid (by omega) (fun _ _ => rfl) h1 f1 (Nat.le_refl _) fun _ _ => rfl
  simp [hA.cell]
  refine (c_dSyncNames (by omega) hI (by omega) ((hA.add (by omega)).drep)).cW ?_
  rintro _ hp2 n2 ⟨rfl, e2⟩
  simp
  refine ⟨⟨by kernel_rfl, by simp [dynOk, pairsOk, befOf, Region.binds, Eff.apart, Eff.clear, Eff.wkeys, Ref.key, AV.refs0, List.range, List.range.loop, sameAt, hA.cell, hc]⟩, ?_⟩
  refine hQ _ _ _ ⟨rfl, ?_⟩
  exact h.both hS (by omega) (fun _ _ => rfl) h1 f1 (by omega) (fun _ _ => rfl) e2 (by omega)

theorem c_Does10 {K n m : Nat} (hK : big K) (hn : 5 ≤ n) {d : Dk} {hp : Hp} {nx x : Nat} {S : Nat → Prop} (hI : d.Inv m) (hm : m ≤ 2 ^ 20) (h : Pr hp nx x d S) (a : ActD) (ha : a.ok) (zb zk : Bool) (hk : a.kind = 10) :
    Sp K n 27 [.ptr x 0 0, .agg (actV a zb zk)] hp nx (DoesQ hp nx x S (d.stop a.n)) := by
  refine sp_cps fun Q hQ => ?_
  obtain ⟨n, rfl⟩ : ∃ m, n = m + 1 := ⟨n - 1, by omega⟩
  obtain ⟨p, q, Sp, Sq, h, hS⟩ := h
  refine sp_of rfl (run_wp Try.func27 rfl (by simp [Try.f27]) ?_)
  have hc := h.cell
  simp [actV, hk, hc]
  refine (c_pStop (by omega) hI ((h.add (by omega)).prep) a.n).cW ?_
  rintro _ hp1 n1 ⟨h1, f1⟩
  have hA : PairAt hp1 n1 x p q _ d _ Sq := h.mid (by omega) (fun _ _ => rfl) h1 f1 (Nat.le_refl _) fun _ _ => rfl
  simp [hA.cell]
  refine ⟨⟨by kernel_rfl, by simp [dynOk, pairsOk, befOf, Region.binds, Eff.apart, Eff.clear, Eff.wkeys, Ref.key, AV.refs0, List.range, List.range.loop, sameAt, hA.cell, hc]⟩, ?_⟩
  refine (c_dStop (by omega) hI ((hA.add (by omega)).drep) a.n).cW ?_
  rintro _ hp2 n2 e2
  simp
  refine ⟨⟨by kernel_rfl, by simp [dynOk, pairsOk, befOf, Region.binds, Eff.apart, Eff.clear, Eff.wkeys, Ref.key, AV.refs0, List.range, List.range.loop, sameAt, hA.cell, hc]⟩, ?_⟩
  refine hQ _ _ _ ⟨rfl, ?_⟩
  exact h.both hS (by omega) (fun _ _ => rfl) h1 f1 (by omega) (fun _ _ => rfl) e2 (by omega)

end Ab
end Go.Proofs.Ytecjchghapgdeaa
