/-
  DERIVED. A pair of disks on the heap: the program's and the document's.
  Conditions: none of a program's.
-/
import Derived.Test.YtecjchghapgdeaaG4
import Derived.Test.YtecjchghapgdeaaG5
import Derived.Test.YtecjchghapgdeaaG6
set_option linter.all false
set_option maxHeartbeats 4000000
namespace Go.Proofs.Ytecjchghapgdeaa
namespace Ab
set_option maxRecDepth 100000
set_option linter.all false

/-- A pair: x: its object; p, q: the disks. -/
structure PairAt (hp : Hp) (nx x p q : Nat) (dp dq : Dk) (Sp Sq : Nat → Prop) : Prop where
  cell : lk hp x = some (0, .cells [.ptr p 0 0, .ptr q 0 0])
  prep : PRep hp nx p dp Sp
  drep : DRep hp nx q dq Sq
  xp : ¬ Sp x
  xq : ¬ Sq x
  dis : ∀ j, Sp j → ¬ Sq j
  xlt : x < nx

theorem PRep.lt {hp : Hp} {nx k : Nat} {d : Dk} {S : Nat → Prop} (h : PRep hp nx k d S) : ∀ j, S j → j < nx := h.1
theorem DRep.lt {hp : Hp} {nx k : Nat} {d : Dk} {S : Nat → Prop} (h : DRep hp nx k d S) : ∀ j, S j → j < nx := h.1
theorem DRep.topS {hp : Hp} {nx k : Nat} {d : Dk} {S : Nat → Prop} (h : DRep hp nx k d S) : S k := by
  obtain ⟨_, _, _, _, _, h⟩ := h
  exact h.topS
theorem PRep.topS {hp : Hp} {nx k : Nat} {d : Dk} {S : Nat → Prop} (h : PRep hp nx k d S) : S k := by
  obtain ⟨_, _, _, _, _, _, h⟩ := h
  exact h.topS

variable {hp hp' : Hp} {nx nx' x p q : Nat} {dp dp' dq dq' : Dk} {Sp Sq : Nat → Prop}

theorem PairAt.add (h : PairAt hp nx x p q dp dq Sp Sq) (hn : nx ≤ nx') : PairAt hp nx' x p q dp dq Sp Sq :=
  ⟨h.cell, h.prep.frame (fun _ _ => rfl) hn, h.drep.frame (fun _ _ => rfl) hn, h.xp, h.xq, h.dis, Nat.lt_of_lt_of_le h.xlt hn⟩
/-- What is made beside it. -/
theorem PairAt.low (h : PairAt hp nx x p q dp dq Sp Sq) (hn : nx ≤ nx') (hl : ∀ j, j < nx → lk hp' j = lk hp j) : PairAt hp' nx' x p q dp dq Sp Sq :=
  ⟨(hl x h.xlt).trans h.cell, h.prep.frame (fun j hj => hl j (h.prep.lt j hj)) hn, h.drep.frame (fun j hj => hl j (h.drep.lt j hj)) hn, h.xp, h.xq, h.dis, Nat.lt_of_lt_of_le h.xlt hn⟩
/-- A call on the program's disk. -/
theorem PairAt.pstep (h : PairAt hp nx x p q dp dq Sp Sq) (h1 : PRep hp' nx' p dp' (grw Sp nx nx')) (h2 : Frm Sp hp nx hp' nx') : PairAt hp' nx' x p q dp' dq (grw Sp nx nx') Sq := by
  have hx := h.xlt
  refine ⟨(h2.out x h.xlt h.xp).trans h.cell, h1, h.drep.frame (fun j hj => h2.out j (h.drep.lt j hj) fun e => h.dis j e hj) h2.le, fun e => e.elim h.xp fun e => by omega, h.xq, fun j hj e => ?_, Nat.lt_of_lt_of_le h.xlt h2.le⟩
  rcases hj with hj | hj
  · exact h.dis j hj e
  · have := h.drep.lt j e
    omega
/-- A call on the document's disk. -/
theorem PairAt.dstep (h : PairAt hp nx x p q dp dq Sp Sq) (he : DEnd q hp nx Sq dq' hp' nx') : PairAt hp' nx' x p q dp dq' Sp (grw Sq nx nx') := by
  obtain ⟨h1, h2, h3⟩ := he
  have hx := h.xlt
  have hxq : x ≠ q := fun e => h.xq (e ▸ h.drep.topS)
  refine ⟨(h3 x h.xlt hxq).trans h.cell, h.prep.frame (fun j hj => h3 j (h.prep.lt j hj) fun e => h.dis j hj (e ▸ h.drep.topS)) h2, h1, h.xp, fun e => e.elim h.xq fun e => by omega, fun j hj e => ?_, Nat.lt_of_lt_of_le h.xlt h2⟩
  rcases e with e | e
  · exact h.dis j hj e
  · have := h.prep.lt j hj
    omega

/-- A pair of disks that are the same, told by one model; S: what belongs to it. -/
def Pr (hp : Hp) (nx x : Nat) (d : Dk) (S : Nat → Prop) : Prop := ∃ p q Sp Sq, PairAt hp nx x p q d d Sp Sq ∧ (∀ j, S j ↔ j = x ∨ Sp j ∨ Sq j)
theorem Pr.lt {d : Dk} {S : Nat → Prop} (h : Pr hp nx x d S) : ∀ j, S j → j < nx := fun j hj => by
  obtain ⟨p, q, Sp, Sq, h, hS⟩ := h
  rcases (hS j).1 hj with rfl | hj | hj
  · exact h.xlt
  · exact h.prep.lt j hj
  · exact h.drep.lt j hj
theorem Pr.frame {d : Dk} {S : Nat → Prop} (h : Pr hp nx x d S) (hf : ∀ j, S j → lk hp' j = lk hp j) (hn : nx ≤ nx') : Pr hp' nx' x d S := by
  obtain ⟨p, q, Sp, Sq, h, hS⟩ := h
  exact ⟨p, q, Sp, Sq, ⟨(hf x ((hS x).2 (.inl rfl))).trans h.cell, h.prep.frame (fun j hj => hf j ((hS j).2 (.inr (.inl hj)))) hn, h.drep.frame (fun j hj => hf j ((hS j).2 (.inr (.inr hj)))) hn, h.xp, h.xq, h.dis, Nat.lt_of_lt_of_le h.xlt hn⟩, hS⟩
/-- Behind a call on both: told as a call's end. -/
theorem PairAt.done {d : Dk} {S Sp' Sq' : Nat → Prop} {nx0 : Nat} {hp0 : Hp} (h : PairAt hp nx x p q d d Sp' Sq') (hS : ∀ j, S j ↔ j = x ∨ Sp j ∨ Sq j) (hle : nx0 ≤ nx) (h1 : ∀ j, Sp' j → Sp j ∨ (nx0 ≤ j ∧ j < nx)) (h2 : ∀ j, Sq' j → Sq j ∨ (nx0 ≤ j ∧ j < nx))
    (h3 : ∀ j, Sp j → Sp' j) (h4 : ∀ j, Sq j → Sq' j) (hf : ∀ j, j < nx0 → ¬ S j → lk hp j = lk hp0 j) : ∃ S', (∀ j, S' j → grw S nx0 nx j) ∧ Pr hp nx x d S' ∧ Frm S hp0 nx0 hp nx := by
  refine ⟨fun j => j = x ∨ Sp' j ∨ Sq' j, fun j hj => ?_, ⟨p, q, Sp', Sq', h, fun j => Iff.rfl⟩, hle, hf⟩
  rcases hj with rfl | hj | hj
  · exact .inl ((hS _).2 (.inl rfl))
  · exact (h1 j hj).elim (fun e => .inl ((hS j).2 (.inr (.inl e)))) .inr
  · exact (h2 j hj).elim (fun e => .inl ((hS j).2 (.inr (.inr e)))) .inr

/-- Between the two calls. -/
theorem PairAt.mid {d d' : Dk} {a b n1 : Nat} {hp0 hp1 hp2 : Hp} (h : PairAt hp nx x p q d d Sp Sq) (ha : nx ≤ a) (f0 : ∀ j, j < nx → lk hp0 j = lk hp j) (h1 : PRep hp1 n1 p d' (grw Sp a n1)) (f1 : Frm Sp hp0 a hp1 n1) (hb : n1 ≤ b)
    (f2 : ∀ j, (j < nx ∨ (a ≤ j ∧ j < n1)) → lk hp2 j = lk hp1 j) : PairAt hp2 b x p q d' d (grw Sp a n1) Sq := by
  have h0 : PairAt hp0 a x p q d d Sp Sq := h.low ha f0
  have hm := h0.pstep h1 f1
  have hx := h.xlt
  have hle := f1.le
  refine ⟨(f2 x (.inl h.xlt)).trans hm.cell, hm.prep.frame (fun j hj => f2 j (hj.elim (fun e => .inl (h.prep.lt j e)) .inr)) hb, hm.drep.frame (fun j hj => f2 j (.inl (h.drep.lt j hj))) hb, hm.xp, hm.xq, hm.dis, by omega⟩
/-- Behind both calls. -/
theorem PairAt.both {d d' : Dk} {S : Nat → Prop} {a b c n1 n2 : Nat} {hp0 hp1 hp2 hp3 : Hp} (h : PairAt hp nx x p q d d Sp Sq) (hS : ∀ j, S j ↔ j = x ∨ Sp j ∨ Sq j) (ha : nx ≤ a) (f0 : ∀ j, j < nx → lk hp0 j = lk hp j) (h1 : PRep hp1 n1 p d' (grw Sp a n1)) (f1 : Frm Sp hp0 a hp1 n1) (hb : n1 ≤ b)
    (f2 : ∀ j, (j < nx ∨ (a ≤ j ∧ j < n1)) → lk hp2 j = lk hp1 j) (e2 : DEnd q hp2 b Sq d' hp3 n2) (hc : n2 ≤ c) : ∃ S', (∀ j, S' j → grw S nx c j) ∧ Pr hp3 c x d' S' ∧ Frm S hp nx hp3 c := by
  have hm := h.mid ha f0 h1 f1 hb f2
  have hd := (hm.dstep e2).add hc
  have hle := f1.le
  have hle2 := e2.2.1
  refine hd.done (Sp := Sp) (Sq := Sq) hS (by omega) (fun j hj => hj.imp id fun e => ⟨by omega, by omega⟩) (fun j hj => hj.imp id fun e => ⟨by omega, by omega⟩) (fun _ => .inl) (fun _ => .inl) fun j hj hn => ?_
  rw [e2.2.2 j (by omega) fun e => hn ((hS j).2 (.inr (.inr (e ▸ h.drep.topS)))), f2 j (.inl hj), f1.out j (by omega) fun e => hn ((hS j).2 (.inr (.inl e))), f0 j hj]
/-- Nothing has turned. -/
theorem PairAt.still {d : Dk} {S : Nat → Prop} {c : Nat} {hp1 : Hp} (h : PairAt hp nx x p q d d Sp Sq) (hS : ∀ j, S j ↔ j = x ∨ Sp j ∨ Sq j) (hc : nx ≤ c) (f : ∀ j, j < nx → lk hp1 j = lk hp j) : ∃ S', (∀ j, S' j → grw S nx c j) ∧ Pr hp1 c x d S' ∧ Frm S hp nx hp1 c :=
  (h.low hc f).done (Sp := Sp) (Sq := Sq) hS hc (fun _ => .inl) (fun _ => .inl) (fun _ h => h) (fun _ h => h) fun j hj _ => f j hj

/-- A call's record. -/
structure ActD where
  kind : Int
  name : Bs
  to : Bs
  b : Bs
  n : Int
  keeps : List Int
def Dk.does (d : Dk) (a : ActD) : Dk :=
  if a.kind = 0 then (d.create a.name).2 else if a.kind = 1 then (d.append a.name a.b).2 else if a.kind = 2 then (d.cut a.name a.n).2 else if a.kind = 3 then (d.rename a.name a.to).2
  else if a.kind = 4 then (d.remove a.name).2 else if a.kind = 5 then (d.sync a.name).2 else if a.kind = 6 then d.syncNames.2 else if a.kind = 10 then d.stop a.n else if a.kind = 7 then d.crash a.keeps a.n else d
theorem Dk.Inv.does {d : Dk} {n : Nat} (h : d.Inv n) (a : ActD) (ha : -9223372036854775808 ≤ a.n ∧ a.n ≤ 9223372036854775807) : (d.does a).Inv (n + 1) := by
  unfold Dk.does
  split
  · exact h.create _
  split
  · exact h.append _ _
  split
  · exact h.cut _ _
  split
  · exact h.rename _ _
  split
  · exact h.remove _
  split
  · exact h.sync _
  split
  · exact h.syncNames
  split
  · exact h.stop _ ha
  split
  · exact h.crash _ _
  exact h.mono (Nat.le_succ n)

end Ab
end Go.Proofs.Ytecjchghapgdeaa

/-
  DERIVED. Bytes in memory of their own; bytes written over.
  Conditions: enough rounds, enough depth; bounded lengths.
-/
namespace Go.Proofs.Ytecjchghapgdeaa
namespace Ab
set_option maxRecDepth 100000
set_option maxHeartbeats 8000000
set_option linter.all false
attribute [local simp] wp_regW opsW_nil opsW_cons opsK_eq regK_no regK_draw oW_n oW_h oW_r oW_pn convA appendA appRow newsA rowsSz rowsOf isIntD makeSliceA elemOf rowsBuilt eqA eq1

theorem c_own {K n nx : Nat} (hn : 1 ≤ n) (z : Bool) (b : Bs) (hz : z = true → b = []) (hb : b.length ≤ 2 ^ 30) :
    callA cfg K n 40 [.vs z 1 (byteRows b)] [] nx = some (.rs (nx + 4) (if b = [] then 0 else 1) 0 b.length 1, [(nx + 4, (if b = [] then 0 else 1, .arr 1 (byteRows b)))], nx + 8) := by
  obtain ⟨n, rfl⟩ : ∃ m, n = m + 1 := ⟨n - 1, by omega⟩
  have w1 : IntKind.i64.wrap ((b.length : Int) + 2) = (b.length : Int) + 2 := wrap_i64 (by omega) (by omega)
  have w2 : (0 : Int) ≤ (b.length : Int) + 2 := by omega
  have w3 : ((b.length : Int) + 2).toNat * 2 ≤ 68719476736 := by omega
  have d1 : b.length * 2 ≤ 68719476736 := by omega
  have : Sp K (n + 1) 40 [.vs z 1 (byteRows b)] [] nx fun r hp' nx' => r = .rs (nx + 4) (if b = [] then 0 else 1) 0 b.length 1 ∧ hp' = [(nx + 4, (if b = [] then 0 else 1, .arr 1 (byteRows b)))] ∧ nx' = nx + 8 := by
    refine sp_cps fun Q hQ => ?_
    refine sp_of rfl (run_wp Try.func40 rfl (by simp [Try.f40]) ?_)
    by_cases hb0 : b = []
    · subst hb0
      have e0 : byteRows [] = [] := rfl
      have w4 : IntKind.i64.wrap 2 = 2 := wrap_i64 (by omega) (by omega)
      cases z <;> simp [lenA_sl, e0, mostB, w4, lk_set]
      all_goals exact hQ _ _ _ ⟨rfl, rfl, rfl⟩
    · have hzf : z = false := by
        cases z with
        | false => rfl
        | true => exact absurd (hz rfl) hb0
      subst hzf
      have hb2 : byteRows b ≠ [] := fun e => hb0 (by simpa [byteRows] using e)
      have hb3 : ¬ b.length = 0 := fun e => hb0 (List.length_eq_zero_iff.1 e)
      simp [lenA_sl, mostB, w1, w2, w3, lk_set, hb2, hb3, d1, hb0, shown_nil]
      exact hQ _ _ _ ⟨by simp [hb0], by simp [hb0], rfl⟩
  obtain ⟨r, hp', nx', h1, h2, h3, h4⟩ := this
  rw [h1, h2, h3, h4]

theorem c_spoil {K n : Nat} (hK : big K) (hn : 1 ≤ n) {hp : Hp} {nx k g len : Nat} {rows : List (List AV)} (hk : k < nx) (hg : lk hp k = some (g, .arr 1 rows)) (hl : rows.length = len) (hlen : len ≤ 2 ^ 25) (hr : ∀ r ∈ rows, r.length = 1) :
    Sp K n 41 [.rs k g 0 len 1] hp nx fun _ hp' nx' => nx ≤ nx' ∧ ∀ j, j < nx → j ≠ k → lk hp' j = lk hp j := by
  refine sp_cps fun Q hQ => ?_
  obtain ⟨n, rfl⟩ : ∃ m, n = m + 1 := ⟨n - 1, by omega⟩
  refine sp_of rfl (run_wp Try.func41 rfl (by simp [Try.f41]) ?_)
  simp
  refine loop_wp (ι := Nat × List (List AV) × Hp × Nat) (fun i => { env := [(0, .rs k g 0 len 1), (2, .i .i64 (i.1 : Nat))], loc := [], hp := i.2.2.1, nx := i.2.2.2 }) (fun i => len - i.1)
    (fun i => i.1 ≤ len ∧ nx ≤ i.2.2.2 ∧ lk i.2.2.1 k = some (g, .arr 1 i.2.1) ∧ i.2.1.length = len ∧ (∀ r ∈ i.2.1, r.length = 1) ∧ ∀ j, j < nx → j ≠ k → lk i.2.2.1 j = lk hp j) (0, rows, hp, _) rfl ⟨Nat.zero_le _, by simp only; omega, hg, hl, hr, fun _ _ _ => rfl⟩ (by simp; unfold big at hK; omega) ?_
  rintro Next ⟨i, rows, H, N⟩ ⟨hi, hN, hg, hl, hr, hfr⟩ hnext
  simp only at hi hN hg hl hr hfr hnext ⊢
  by_cases hlt : i < len
  · have c1 : (i : Int) < len := by omega
    have c3 : IntKind.i64.wrap ((i : Int) + 1) = ((i + 1 : Nat) : Int) := by rw [wrap_i64 (by omega) (by omega)]; omega
    obtain ⟨r, hx⟩ : ∃ r, rows[i]? = some r := ⟨_, List.getElem?_eq_getElem (by omega)⟩
    have hrl := hr r (List.mem_of_getElem? hx)
    obtain ⟨r0, rfl⟩ : ∃ a, r = [a] := by
      match r, hrl with
      | [a], _ => exact ⟨a, rfl⟩
    simp [lenA_sl, c1, hg, hx, c3]
    refine hnext (i + 1, rows.set i [.i .u8 85], _, _) (by simp only; omega) ⟨hlt, by simp only; omega, by simp [lk_set], by simpa using hl, fun r hr' => ?_, fun j hj hjk => by simp [lk_set, hjk, hfr j hj hjk]⟩
    rcases List.mem_or_eq_of_mem_set hr' with h | h
    · exact hr r h
    · rw [h]; rfl
  · obtain rfl : i = len := by omega
    have fk : ∀ c, ¬ k = N + c := fun c => by omega
    have fk' : ∀ c, ¬ N + c = k := fun c => by omega
    have d1 : (i + 1) * 2 ≤ 68719476736 := by omega
    simp [lenA_sl, hg, hl, mostB, lk_set, Nat.add_assoc, fk, fk', d1]
    refine hQ _ _ _ ⟨by omega, fun j hj hjk => ?_⟩
    have t1 : ∀ c, ¬ j = N + c := fun c => by omega
    simp [lk_set, hjk, t1, hfr j hj hjk]

theorem c_spoil0 {K n : Nat} (hK : big K) (hn : 1 ≤ n) {hp : Hp} {nx z : Nat} :
    Sp K n 41 [.vs true z []] hp nx fun _ hp' nx' => nx ≤ nx' ∧ ∀ j, j < nx → lk hp' j = lk hp j := by
  refine sp_cps fun Q hQ => ?_
  obtain ⟨n, rfl⟩ : ∃ m, n = m + 1 := ⟨n - 1, by omega⟩
  refine sp_of rfl (run_wp Try.func41 rfl (by simp [Try.f41]) ?_)
  simp
  refine loop_wp (ι := Nat) (fun i => { env := [(0, .vs true z []), (2, .i .i64 0)], loc := [], hp := hp, nx := i }) (fun _ => 0)
    (fun i => nx ≤ i) _ rfl (by omega) (by unfold big at hK; omega) ?_
  rintro Next N hN hnext
  simp [lenA_sl, mostB, lk_set, Nat.add_assoc]
  refine hQ _ _ _ ⟨by omega, fun j hj => ?_⟩
  have t1 : ∀ c, ¬ j = N + c := fun c => by omega
  simp [lk_set, t1]

end Ab
end Go.Proofs.Ytecjchghapgdeaa
