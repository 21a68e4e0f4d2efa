/-
  DERIVED. A segment's bytes; a record put to a segment.
  Conditions: enough rounds, enough depth; bounded lengths.
-/
import Derived.Test.YtmbbnoipoifhhaaGreatDoorV10
set_option linter.all false
set_option maxHeartbeats 4000000
namespace Go.Proofs.YtmbbnoipoifhhaaGreatDoor
namespace Ab
set_option maxRecDepth 100000
set_option maxHeartbeats 8000000
set_option linter.all false
attribute [local simp] wp_regW opsW_nil opsW_cons opsK_eq regK_no regK_draw oW_n oW_h oW_r oW_pn convA appendA appRow newsA rowsSz rowsOf isIntD makeSliceA elemOf rowsBuilt eqA eq1
attribute [-simp] fCall
variable {kl kd : Nat} {d : Dk} {U S T : Nat → Prop} {sv : AV} {ks : List Nat} {rvs : Nat → AV} {H H' : Hp} {N N' K n m : Nat} {l : Lg} {name : Bs}

theorem look_none (d : Dk) (s : Bs) : ((d.look s).1 = 0 ↔ (d.look s).2.isSome = true) ∧ ((d.look s).1 = 0 ∨ (d.look s).1 ≠ 0) := by
  refine ⟨?_, Classical.em _⟩
  unfold Dk.look
  split
  · simp
  · split <;> simp

theorem c_gBytes (hK : big K) (hn : 4 ≤ n) (hI : d.Inv m) (hname : l.name.length ≤ 40) (h : LX kl kd l d U sv ks rvs H N) {i k : Nat} {s : Sg} (hk : ks[i]? = some k) (hs : l.segs[i]? = some s) (hno : s.no < W64) :
    Sp K n 37 [.ptr kl 0 0, .ptr k 0 0] H N fun r H' N' => r = .i .i64 (l.bytes d s : Nat) ∧ N ≤ N' ∧ ∀ j, j < N → lk H' j = lk H j := by
  refine sp_cps fun Q hQ => ?_
  obtain ⟨n, rfl⟩ : ∃ m, n = m + 1 := ⟨n - 1, by omega⟩
  refine sp_of rfl (run_wp Tryz.func37 rfl (by simp [Tryz.f37]) ?_)
  have ht := h.top
  have hg := h.sg hk hs
  have hklt := h.kl_lt
  obtain ⟨k', a, g, j0, all, p1, p0, p2, p3, p4, p5, p6, p7, p8, p9⟩ := h.at hs
  rw [hk] at p1
  cases p1
  have hkk := h.lt k p8
  simp [ht, hg]
  refine (c_file hK (by omega) (H := H) hno hname ht).cW ?_
  rintro _ H2 n2 ⟨rfl, e1, e2⟩
  have L2 := h.low (H' := H2) (N' := n2) (fun j hj => e2 j (by omega)) (by omega)
  have y1 : lk H2 kl = lk H kl := e2 kl (by omega)
  have y2 : lk H2 k = lk H k := e2 k (by omega)
  simp
  refine (lx_size hK (by omega) hI L2 (fileN l.name s.no)).cW ?_
  rintro _ _ n3 ⟨rfl, rfl, e3⟩
  have y3 := y2.trans hg
  simp
  refine ⟨⟨by kernel_rfl, by simp [dynOk, pairsOk, befOf, Region.binds, Eff.apart, Eff.clear, Eff.wkeys, Ref.key, AV.refs0, List.range, List.range.loop, sameAt, y1, y2]⟩, ?_⟩
  have hlk := (look_none d (fileN l.name s.no)).1
  cases hl2 : (d.look (fileN l.name s.no)).2 with
  | none =>
    rw [hl2] at hlk
    have he : (d.look (fileN l.name s.no)).1 ≠ 0 := fun e => by simpa using hlk.1 e
    have he2 : ((d.look (fileN l.name s.no)).1 != 0) = true := by simpa using he
    have hb : l.bytes d s = s.size := by unfold Lg.bytes; rw [hl2]
    simp [he, he2, y3]
    exact hQ _ _ _ ⟨by rw [hb], by omega, fun j hj => e2 j (by omega)⟩
  | some f =>
    rw [hl2] at hlk
    have he : (d.look (fileN l.name s.no)).1 = 0 := hlk.2 rfl
    have hb : l.bytes d s = f.b.length := by unfold Lg.bytes; rw [hl2]
    simp [he]
    exact hQ _ _ _ ⟨by rw [hb], by omega, fun j hj => e2 j (by omega)⟩

/-- A record put to a segment. -/
structure TakesQ (H : Hp) (N : Nat) (T : Nat → Prop) (k no : Nat) (rv : AV) (sz : Nat) (recs : List Bs) (b : Bs) (rv' : AV) (H' : Hp) (N' : Nat) : Prop where
  le : N ≤ N'
  top : lk H' k = some (0, .cells [.i .u64 (no : Nat), rv', .i .i64 ((sz + b.length + 12 : Nat) : Int)])
  recs : RecsAt H' (grw T N N') rv' (recs ++ [b])
  arr : ∀ a g nn, rv' = .rs a g 0 nn 1 → (∃ g' nn', rv = .rs a g' 0 nn' 1) ∨ (N ≤ a ∧ a < N')
  out : ∀ j, j < N → j ≠ k → (∀ g nn, rv ≠ .rs j g 0 nn 1) → lk H' j = lk H j
theorem c_takes (hn : 2 ≤ n) {k no sz ka ga : Nat} {rv : AV} {recs : List Bs} {b : Bs} (hk : lk H k = some (0, .cells [.i .u64 (no : Nat), rv, .i .i64 (sz : Nat)])) (hr : RecsAt H T rv recs) (hT : ∀ j, T j → j < N) (hkN : k < N) (ha : lk H ka = some (ga, .arr 1 (byteRows b))) (hka : ka < N)
    (hrl : recs.length ≤ 2 ^ 27) (hsz : sz ≤ 2 ^ 50) (hb : b.length ≤ 2 ^ 30) :
    Sp K n 40 [.ptr k 0 0, .rs ka ga 0 b.length 1] H N fun r H' N' => r = .tup [] ∧ ∃ rv', TakesQ H N T k no rv sz recs b rv' H' N' := by
  refine sp_cps fun Q hQ => ?_
  obtain ⟨n, rfl⟩ : ∃ m, n = m + 1 := ⟨n - 1, by omega⟩
  refine sp_of rfl (run_wp Tryz.func40 rfl (by simp [Tryz.f40]) ?_)
  have sc := fun nx => c_sclone (K := K) (n := n) (nx := nx) (by omega) b hb
  have wn2 : IntKind.i64.wrap ((b.length : Int) + 12) = (b.length : Int) + 12 := wrap_i64 (by omega) (by omega)
  have wn3 : IntKind.i64.wrap ((sz : Int) + ((b.length : Int) + 12)) = ((sz + b.length + 12 : Nat) : Int) := by rw [wrap_i64 (by omega) (by omega)]; omega
  have g1 : ∀ c, ¬ k = N + c := fun c => by omega
  have g2 : ∀ c, ¬ N + c = k := fun c => by omega
  have g3 : ∀ c, ¬ ka = N + c := fun c => by omega
  have hk0 : k ≠ ka := ne_of_lk hk ha (by simp)
  simp [hk]
  refine f_use (frz_all (b := b) (by simp [ha]) rfl) (sc _) (by simp) ?_
  rcases hr with ⟨rfl, rfl⟩ | ⟨a, g', vs, hp0, rfl, l1, l2, l3, l4⟩
  · have hr0 : RecsAt H T (.vs true 0 []) [] := .inl ⟨rfl, rfl⟩
    simp [lk_set, Nat.add_assoc, mostB, hk, g1, g2, up_up, wn2, wn3, lenA_sl]
    refine ⟨⟨by kernel_rfl, by simp [dynOk, pairsOk, befOf, Region.binds, Eff.apart, Eff.clear, Eff.wkeys, Ref.key, AV.refs0, List.range, List.range.loop, sameAt, g1, g2]⟩, ?_⟩
    have eN : N + 30 = N + 30 := rfl
    refine hQ _ _ _ ⟨rfl, .rs (N + 8) 0 0 1 1, by omega, by simp [lk_set]; omega, ?_, fun a g nn e => ?_, fun j hj hjk _ => ?_⟩
    · refine hr0.push (b := b) (v := .rs (N + 15) (if b = [] then 0 else 1) 0 b.length 1) (fun j hj => .inl hj) (fun j x hj hx hkx => ?_) (.inr ⟨N + 15, if b = [] then 0 else 1, by simp, by simp [lk_set, g2], .inr ⟨by omega, by omega⟩⟩) (.inl ⟨rfl, N + 8, rfl, by simp [lk_set, g2], .inr ⟨by omega, by omega⟩⟩)
      have u1 : j ≠ k := ne_of_kind hx hk fun e => by rw [e] at hkx; simp [aoK] at hkx
      have u2 : ∀ c, ¬ j = N + c := fun c => by have := hT j hj; omega
      simp [lk_set, u1, u2]
    · injection e with e
      exact .inr ⟨by omega, by omega⟩
    · have u2 : ∀ c, ¬ j = N + c := fun c => by omega
      simp [lk_set, hjk, u2]
  · have hr0 : RecsAt H T (.rs a g' 0 recs.length 1) recs := .inr ⟨a, g', vs, hp0, rfl, l1, l2, l3, l4⟩
    have haN := hT a l2
    have h1a : ∀ c, ¬ a = N + c := fun c => by omega
    have h2a : ∀ c, ¬ N + c = a := fun c => by omega
    have nak : ¬ a = k := ne_of_lk l1 hk (by simp)
    have nka : ¬ k = a := fun e => nak e.symm
    have s0 : shown (vs.map recRow) 0 recs.length = vs.map recRow := shown_all (by simp [l3])
    have d0 : (recs.length + 1) * 25 ≤ 68719476736 := by omega
    simp [lk_set, Nat.add_assoc, mostB, hk, l1, g1, g2, h1a, h2a, nak, nka, up_up, wn2, wn3, l3, s0, d0, lenA_sl]
    refine ⟨⟨by kernel_rfl, by simp [dynOk, pairsOk, befOf, Region.binds, Eff.apart, Eff.clear, Eff.wkeys, Ref.key, AV.refs0, List.range, List.range.loop, sameAt, g1, g2, h1a, h2a, nak, nka]⟩, ?_⟩
    refine hQ _ _ _ ⟨rfl, .rs a (g' + 1) 0 (recs.length + 1) 1, by omega, by simp [lk_set]; omega, ?_, fun a' g nn e => ?_, fun j hj hjk hja => ?_⟩
    · refine hr0.push (b := b) (v := .rs (N + 15) (if b = [] then 0 else 1) 0 b.length 1) (fun j hj => .inl hj) (fun j x hj hx hkx => ?_) (.inr ⟨N + 15, if b = [] then 0 else 1, by simp, by simp [lk_set, g2, h2a], .inr ⟨by omega, by omega⟩⟩) (.inr ⟨a, g', _, rfl, l1, rfl, by simp [lk_set, nak]⟩)
      have u1 : j ≠ k := ne_of_kind hx hk fun e => by rw [e] at hkx; simp [aoK] at hkx
      have u3 : j ≠ a := ne_of_kind hx l1 fun e => by rw [e, recs_kind hp0 l3 l4] at hkx; omega
      have u2 : ∀ c, ¬ j = N + c := fun c => by have := hT j hj; omega
      simp [lk_set, u1, u2, u3]
    · injection e with e
      exact .inl ⟨g', recs.length, by rw [e]⟩
    · have u3 : j ≠ a := fun e => hja g' recs.length (by rw [e])
      have u2 : ∀ c, ¬ j = N + c := fun c => by omega
      simp [lk_set, hjk, u2, u3]

/-- A log one of whose segments took a record. -/
theorem LX.takes {rv' : AV} {i k : Nat} {s : Sg} {b : Bs} (h1 : PRep H N kd d S) (h2 : GX H kl kd l T sv ks rvs) (h3 : ∀ j, S j → ¬ T j) (h4 : ∀ j, S j → U j) (h5 : ∀ j, T j → U j) (h6 : ∀ j, U j → j < N)
    (hk : ks[i]? = some k) (hs : l.segs[i]? = some s) (ht : TakesQ H N T k s.no (rvs k) s.size s.recs b rv' H' N') :
    LX kl kd { l with segs := l.segs.set i (s.takes b) } d (grw U N N') sv ks (fun k' => if k' = k then rv' else rvs k') H' N' := by
  have hTN : ∀ j, T j → j < N := fun j hj => h6 j (h5 j hj)
  have hg := h2.seg i k s hk hs
  have hle := ht.le
  -- the array of the segment's records is the log's
  have arrT : ∀ k' a g nn, k' ∈ ks → rvs k' = .rs a g 0 nn 1 → T a ∧ ∃ x, lk H a = some x ∧ aoK x.2 = 3 := fun k' a g nn hk' e => by
    obtain ⟨i', hi⟩ := List.getElem?_of_mem hk'
    have hi2 := (List.getElem?_eq_some_iff.1 hi).1
    have hr := (h2.seg i' k' _ hi (List.getElem?_eq_getElem (by have := h2.len; omega))).recs
    rcases hr with ⟨_, e3⟩ | ⟨a', g', vs, f0, f1, f2, f3, f4, f5⟩
    · rw [e] at e3; cases e3
    · rw [e] at f1
      injection f1 with f1
      subst f1
      exact ⟨f3, _, f2, recs_kind f0 f4 f5⟩
  have hkm : k ∈ ks := List.mem_of_getElem? hk
  have stay : ∀ j x, j < N → lk H j = some x → aoK x.2 ≠ 13 → aoK x.2 ≠ 3 → lk H' j = lk H j := fun j x hj hx e1 e2 => ht.out j hj (ne_of_kind hx hg.top (by simpa [aoK] using e1)) fun g nn e => by
    obtain ⟨_, y, f1, f2⟩ := arrT k j g nn hkm e
    rw [hx] at f1
    cases f1
    exact e2 f2
  have stayS : ∀ j, S j → lk H' j = lk H j := fun j hj => ht.out j (h6 j (h4 j hj)) (fun e => h3 j hj (e ▸ hg.topT)) fun g nn e => h3 j hj (arrT k j g nn hkm e).1
  refine ⟨S, grw T N N', h1.frame stayS ht.le, ⟨?_, .inl h2.topT, h2.segs.mono (fun j x hj hx hkx => stay j x (hTN j hj) hx (by omega) (by omega)) (fun _ => .inl), by simpa using h2.len, fun i' k' s' e1 e2 => ?_, h2.inj, fun k1 k2 a g nn g' nn' e1 e2 e3 e4 => ?_⟩, fun j hj e => ?_, fun j hj => .inl (h4 j hj), fun j hj => hj.imp (h5 j) id, grw_lt h6 ht.le⟩
  · exact (stay kl _ (hTN kl h2.topT) h2.top (by simp [aoK]) (by simp [aoK])).trans h2.top
  · by_cases hi : i' = i
    · subst hi
      rw [hk] at e1
      cases e1
      have hi2 := (List.getElem?_eq_some_iff.1 hs).1
      simp only [List.getElem?_set_self hi2, Option.some.injEq] at e2
      subst e2
      simp only [if_true]
      exact ⟨ht.top, .inl hg.topT, ht.recs⟩
    · have e2' : l.segs[i']? = some s' := by
        simp only [List.getElem?_set_ne (fun e => hi e.symm)] at e2
        exact e2
      have hg' := h2.seg i' k' s' e1 e2'
      have hkk : k' ≠ k := fun e => hi (by
        subst e
        have a1 := (List.getElem?_eq_some_iff.1 e1).1
        have a2 := (List.getElem?_eq_some_iff.1 hk).1
        have := (List.getElem_inj h2.inj).1 (((List.getElem?_eq_some_iff.1 e1).2).trans ((List.getElem?_eq_some_iff.1 hk).2).symm)
        exact this)
      simp only [if_neg hkk]
      refine ⟨(ht.out k' (hTN k' hg'.topT) hkk fun g nn e => ?_).trans hg'.top, .inl hg'.topT, (hg'.recs.kinds (fun j x hj hx hkx => stay j x (hTN j hj) hx (by omega) (by omega)) (fun j g nn hj e => ?_) fun _ => .inl)⟩
      · obtain ⟨_, y, f1, f2⟩ := arrT k k' g nn hkm e
        rw [hg'.top] at f1
        cases f1
        simp [aoK] at f2
      · have hkm' : k' ∈ ks := List.mem_of_getElem? e1
        obtain ⟨_, y, f1, f2⟩ := arrT k' j g nn hkm' e
        exact ht.out j (hTN j hj) (ne_of_kind f1 hg.top (by rw [f2]; simp [aoK])) fun g2 nn2 e2 => hkk (h2.rinj k' k j g nn g2 nn2 hkm' hkm e e2)
  · by_cases ek1 : k1 = k
    · by_cases ek2 : k2 = k
      · rw [ek1, ek2]
      · subst ek1
        simp only [if_true] at e3
        simp only [if_neg ek2] at e4
        rcases ht.arr a g nn e3 with ⟨g2, nn2, e5⟩ | e5
        · exact h2.rinj k1 k2 a g2 nn2 g' nn' e1 e2 e5 e4
        · have := hTN a (arrT k2 a g' nn' e2 e4).1
          omega
    · by_cases ek2 : k2 = k
      · subst ek2
        simp only [if_neg ek1] at e3
        simp only [if_true] at e4
        rcases ht.arr a g' nn' e4 with ⟨g2, nn2, e5⟩ | e5
        · exact h2.rinj k1 k2 a g nn g2 nn2 e1 e2 e3 e5
        · have := hTN a (arrT k1 a g nn e1 e3).1
          omega
      · simp only [if_neg ek1] at e3
        simp only [if_neg ek2] at e4
        exact h2.rinj k1 k2 a g nn g' nn' e1 e2 e3 e4
  · rcases e with e | e
    · exact h3 j hj e
    · have := h6 j (h4 j hj)
      omega

end Ab
end Go.Proofs.YtmbbnoipoifhhaaGreatDoor
