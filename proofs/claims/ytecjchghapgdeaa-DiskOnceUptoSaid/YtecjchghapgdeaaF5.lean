/-
  DERIVED. The document's disk: names with one that stands for a file, or for none.
  Conditions: enough rounds, enough depth; few names.
-/
import Derived.Test.YtecjchghapgdeaaF4
set_option linter.all false
set_option maxHeartbeats 4000000
namespace Go.Proofs.Ytecjchghapgdeaa
namespace Ab
set_option maxRecDepth 100000
set_option maxHeartbeats 8000000
set_option linter.all false
attribute [local simp] wp_region regionA opsA nCall rCall goCallR pCall pnCall lenA appendA appRow newsA rowsSz rowsOf isIntD makeSliceA elemOf rowsBuilt eqA eq1

/-- Names gone through: has the new one been put? -/
def withF (s : Bs) (x : Nat) : Bool → Way → Way
  | put, [] => if put then [] else [(s, x)]
  | put, e :: w => if put = false ∧ ltB e.1 s = false then (s, x) :: (if e.1 = s then withF s x true w else e :: withF s x true w) else if e.1 = s then withF s x put w else e :: withF s x put w
theorem withF_true (s : Bs) (x : Nat) : ∀ w : Way, withF s x true w = delW w s
  | [] => rfl
  | e :: w => by
    unfold withF delW
    by_cases h : e.1 = s
    · simp [h]; exact withF_true s x w
    · simp [h]; exact withF_true s x w
theorem withF_false (s : Bs) (x : Nat) : ∀ w : Way, withF s x false w = insW w s x
  | [] => rfl
  | e :: w => by
    unfold withF insW
    cases h : ltB e.1 s with
    | true =>
      have hne := ltB_ne h
      have := withF_false s x w
      unfold insW at this
      simp [h, hne, this]
    | false =>
      rw [withF_true]
      by_cases h2 : e.1 = s
      · simp [h2, delW, ltB_irr]
      · simp [h, h2, delW]
/-- What names are with one. -/
def withX (w : Way) (s : Bs) (x : Int) : Way := if x < 0 then delW w s else insW w s x.toNat
theorem withX_eq (w : Way) (s : Bs) (x : Int) : withX w s x = withF s x.toNat (decide (x < 0)) w := by
  unfold withX
  by_cases h : x < 0
  · simp [h, withF_true]
  · simp [h, withF_false]

/-- What has been gathered so far, in two slices of its own. -/
def Two (H : Hp) (lo hi : Nat) (oa ob : AV) (out : Way) : Prop := (out = [] ∧ oa = .vs true 0 [] ∧ ob = .vs true 0 []) ∨
  ∃ ka ga kb gb, oa = .rs ka ga 0 out.length 1 ∧ ob = .rs kb gb 0 out.length 1 ∧ lk H ka = some (ga, .arr 1 (nameRows out)) ∧ lk H kb = some (gb, .arr 1 (fiRows out)) ∧ ka ≠ kb ∧ lo ≤ ka ∧ ka < hi ∧ lo ≤ kb ∧ kb < hi

theorem shown_one (r : List AV) : shown [r] 0 1 = [r] := shown_all rfl
theorem Two.ok1 {H : Hp} {lo hi : Nat} {oa ob : AV} {out : Way} (h : Two H lo hi oa ob out) : oa.okc = true := by
  rcases h with ⟨_, rfl, _⟩ | ⟨_, _, _, _, rfl, _⟩ <;> rfl
theorem Two.ok2 {H : Hp} {lo hi : Nat} {oa ob : AV} {out : Way} (h : Two H lo hi oa ob out) : ob.okc = true := by
  rcases h with ⟨_, _, rfl⟩ | ⟨_, _, _, _, _, rfl, _⟩ <;> rfl
theorem Two.mono {H : Hp} {lo hi hi' : Nat} {oa ob : AV} {out : Way} (h : Two H lo hi oa ob out) (hh : hi ≤ hi') : Two H lo hi' oa ob out := by
  rcases h with h | ⟨ka, ga, kb, gb, h1, h2, h3, h4, h5, h6, h7, h8, h9⟩
  · exact .inl h
  · exact .inr ⟨ka, ga, kb, gb, h1, h2, h3, h4, h5, h6, by omega, h8, by omega⟩

theorem c_dwith {K n nx : Nat} (hK : big K) (hn : 1 ≤ n) {hp : Hp} {S : Nat → Prop} (hS : ∀ j, S j → j < nx) {w : Way} {a b : AV} (ha : SV 1 hp S a (nameRows w)) (hb : SV 1 hp S b (fiRows w)) (hw : w.length ≤ 64) (s : Bs) (x : Int) (hx : -1 ≤ x ∧ x ≤ 2 ^ 40) :
    Sp K n 70 [.agg [a, b], .s (ba s), .i .i64 x] hp nx fun r hp' nx' => nx ≤ nx' ∧ (∀ j, j < nx → lk hp' j = lk hp j) ∧ ∃ oa ob, r = .agg [oa, ob] ∧ Two hp' nx nx' oa ob (withX w s x) := by
  refine sp_cps fun Q hQ => ?_
  obtain ⟨n, rfl⟩ : ∃ m, n = m + 1 := ⟨n - 1, by omega⟩
  refine sp_of rfl (run_wp Try.func70 rfl (by simp [Try.f70]) ?_)
  simp [ha.okc, hb.okc]
  rw [withX_eq] at hQ
  refine loop_wp (ι := Nat × Way × Bool × AV × AV × Hp × Nat) (fun i => { env := [(1, .s (ba s)), (2, .i .i64 x), (3, .lp 3 nx 0), (6, .lp 6 (nx + 1) 0), (7, .lp 7 (nx + 2) 0), (8, .b i.2.2.1), (9, .i .i64 (i.1 : Nat))], loc := [(3, nx, .cells [a, b]), (6, nx + 1, .cells [.vs true 0 [], .vs true 0 []]), (7, nx + 2, .cells [i.2.2.2.1, i.2.2.2.2.1])], hp := i.2.2.2.2.2.1, nx := i.2.2.2.2.2.2 }) (fun i => w.length - i.1)
    (fun i => i.1 ≤ w.length ∧ nx ≤ i.2.2.2.2.2.2 ∧ (∀ j, j < nx → lk i.2.2.2.2.2.1 j = lk hp j) ∧ Two i.2.2.2.2.2.1 nx i.2.2.2.2.2.2 i.2.2.2.1 i.2.2.2.2.1 i.2.1 ∧ i.2.1.length ≤ 2 * i.1 ∧ (i.2.2.1 = false → 0 ≤ x) ∧ i.2.1 ++ withF s x.toNat i.2.2.1 (w.drop i.1) = withF s x.toNat (decide (x < 0)) w) (0, [], decide (x < 0), .vs true 0 [], .vs true 0 [], hp, _) rfl ⟨Nat.zero_le _, by simp only; omega, fun _ _ => rfl, .inl ⟨rfl, rfl, rfl⟩, by simp, by simp, by simp⟩ (by simp; unfold big at hK; omega) ?_
  rintro Next ⟨i, out, put, oa, ob, H, N⟩ ⟨hi, hN, hfr, h2, hol, hput, he⟩ hnext
  simp only at hi hN hfr h2 hol hput he hnext ⊢
  by_cases hlt : i < w.length
  · have c1 : (i : Int) < w.length := by omega
    have c3 : IntKind.i64.wrap ((i : Int) + 1) = ((i + 1 : Nat) : Int) := by rw [wrap_i64 (by omega) (by omega)]; omega
    obtain ⟨e, hxe⟩ : ∃ e, w[i]? = some e := ⟨w[i], List.getElem?_eq_getElem hlt⟩
    have hd : w.drop i = e :: w.drop (i + 1) := by
      rw [List.drop_eq_getElem_cons hlt]
      rw [List.getElem?_eq_getElem hlt] at hxe
      cases hxe; rfl
    obtain ⟨kb, gb, jb, allb, rfl, b1, b2, b3, _⟩ := fi_at hb hxe
    obtain ⟨ka, ga, ja, alla, rfl, a1, a2, a3, _⟩ := nm_at ha hxe
    have a1' : lk H ka = some (ga, .arr 1 alla) := (hfr ka (hS ka a3)).trans a1
    have b1' : lk H kb = some (gb, .arr 1 allb) := (hfr kb (hS kb b3)).trans b1
    have f1 : ∀ c, ¬ ka = N + c := fun c => by have := hS ka a3; omega
    have f2 : ∀ c, ¬ kb = N + c := fun c => by have := hS kb b3; omega
    rw [hd] at he
    have f3 : ∀ c, ¬ N + c = ka := fun c => by have := hS ka a3; omega
    have f4 : ∀ c, ¬ N + c = kb := fun c => by have := hS kb b3; omega
    have ka0 := hS ka a3
    have kb0 := hS kb b3
    by_cases hA : put = false ∧ ltB e.1 s = false
    · obtain ⟨rfl, hlt2⟩ := hA
      have hmax : max x 0 = x := Int.max_eq_left (hput rfl)
      cases hes : e.1 == s with
      | true =>
        have hes' : e.1 = s := by simpa using hes
        rw [withF, if_pos ⟨rfl, hlt2⟩, if_pos hes'] at he
        rcases h2 with ⟨rfl, rfl, rfl⟩ | ⟨kc, gc, kd, gd, rfl, rfl, c4, c5, c6, c7, c8, c9, c10⟩
        · simp [c1, a1', a2, b1', b2, ltB_eq, ba_list, c3, mostB, lk_set, up_up, Nat.add_assoc, f1, f2, f3, f4, shown_nil, shown_one, hlt2, hes]
          refine ⟨⟨by kernel_rfl, by simp [dynOk, pairsOk, befOf, Region.binds, Eff.apart, Eff.clear, Eff.wkeys, Ref.key, AV.refs0, List.range, List.range.loop, f1, f2, f3, f4]⟩, ?_⟩
          refine hnext (i + 1, [(s, x.toNat)], true, _, _, _, _) (by simp only; omega) ⟨hlt, by simp only; omega, fun j hj => ?_, ?_, ?_, ?_, ?_⟩
          · have t1 : ∀ c, ¬ j = N + c := fun c => by omega
            simp [lk_set, t1, hfr j hj]
          · exact .inr ⟨_, _, _, _, rfl, rfl, by simp [lk_set, nameRows, fiRows], by simp [lk_set, nameRows, fiRows, hmax], by omega, by omega, by simp only; omega, by omega, by simp only; omega⟩
          · simp only [List.length_cons, List.length_nil] at *
            omega
          · intro h; cases h
          · simpa using he
        · have g1 : ∀ c, ¬ kc = N + c := fun c => by omega
          have g2 : ∀ c, ¬ kd = N + c := fun c => by omega
          have g3 : ∀ c, ¬ N + c = kc := fun c => by omega
          have g4 : ∀ c, ¬ N + c = kd := fun c => by omega
          have u1 : ¬ ka = kc := by omega
          have u2 : ¬ ka = kd := by omega
          have u3 : ¬ kb = kc := by omega
          have u4 : ¬ kb = kd := by omega
          have u1' : ¬ kc = ka := by omega
          have u2' : ¬ kd = ka := by omega
          have u3' : ¬ kc = kb := by omega
          have u4' : ¬ kd = kb := by omega
          have c6' : ¬ kd = kc := fun e => c6 e.symm
          have d0 : (out.length + 1) * 17 ≤ 68719476736 := by omega
          have d1 : (out.length + 1) * 9 ≤ 68719476736 := by omega
          have d2 : (out.length + 2) * 17 ≤ 68719476736 := by omega
          have d3 : (out.length + 2) * 9 ≤ 68719476736 := by omega
          have d4 : shown (nameRows out) 0 out.length = nameRows out := shown_all (by simp)
          have d5 : shown (fiRows out) 0 out.length = fiRows out := shown_all (by simp)
          have d6 : ∀ r, shown (nameRows out ++ [r]) 0 (out.length + 1) = nameRows out ++ [r] := fun r => shown_all (by simp)
          have d7 : ∀ r, shown (fiRows out ++ [r]) 0 (out.length + 1) = fiRows out ++ [r] := fun r => shown_all (by simp)
          simp [c1, a1', a2, b1', b2, ltB_eq, ba_list, c3, mostB, lk_set, up_up, Nat.add_assoc, f1, f2, f3, f4, shown_nil, shown_one, hlt2, hes, c4, c5, c6, c6', g1, g2, g3, g4, u1, u2, u3, u4, d0, d1, d2, d3, d4, d5, d6, d7]
          refine ⟨⟨by kernel_rfl, by simp [dynOk, pairsOk, befOf, Region.binds, Eff.apart, Eff.clear, Eff.wkeys, Ref.key, AV.refs0, List.range, List.range.loop, f1, f2, f3, f4, g1, g2, g3, g4, u1, u2, u3, u4, u1', u2', u3', u4', c6, c6']⟩, ?_⟩
          refine hnext (i + 1, out ++ [(s, x.toNat)], true, _, _, _, _) (by simp only; omega) ⟨hlt, by simp only; omega, fun j hj => ?_, ?_, ?_, ?_, ?_⟩
          · have t1 : ∀ c, ¬ j = N + c := fun c => by omega
            have t2 : ¬ j = kc := by omega
            have t3 : ¬ j = kd := by omega
            simp [lk_set, t1, t2, t3, hfr j hj]
          · exact .inr ⟨kc, _, kd, _, by simp; rfl, by simp; rfl, by simp [lk_set, nameRows, fiRows, g1, g2, c6], by simp [lk_set, nameRows, fiRows, hmax, g1, g2, c6'], c6, c7, by simp only; omega, c9, by simp only; omega⟩
          · simp only [List.length_append, List.length_cons, List.length_nil] at *
            omega
          · intro h; cases h
          · simpa using he
      | false =>
        have hes' : ¬ e.1 = s := by simpa using hes
        rw [withF, if_pos ⟨rfl, hlt2⟩, if_neg hes'] at he
        rcases h2 with ⟨rfl, rfl, rfl⟩ | ⟨kc, gc, kd, gd, rfl, rfl, c4, c5, c6, c7, c8, c9, c10⟩
        · simp [c1, a1', a2, b1', b2, ltB_eq, ba_list, c3, mostB, lk_set, up_up, Nat.add_assoc, f1, f2, f3, f4, shown_nil, shown_one, hlt2, hes]
          refine ⟨⟨by kernel_rfl, by simp [dynOk, pairsOk, befOf, Region.binds, Eff.apart, Eff.clear, Eff.wkeys, Ref.key, AV.refs0, List.range, List.range.loop, f1, f2, f3, f4]⟩, ?_⟩
          refine ⟨⟨by kernel_rfl, by simp [dynOk, pairsOk, befOf, Region.binds, Eff.apart, Eff.clear, Eff.wkeys, Ref.key, AV.refs0, List.range, List.range.loop, f1, f2, f3, f4]⟩, ?_⟩
          refine hnext (i + 1, [(s, x.toNat), e], true, _, _, _, _) (by simp only; omega) ⟨hlt, by simp only; omega, fun j hj => ?_, ?_, ?_, ?_, ?_⟩
          · have t1 : ∀ c, ¬ j = N + c := fun c => by omega
            simp [lk_set, t1, hfr j hj]
          · exact .inr ⟨_, _, _, _, rfl, rfl, by simp [lk_set, nameRows, fiRows], by simp [lk_set, nameRows, fiRows, hmax], by omega, by omega, by simp only; omega, by omega, by simp only; omega⟩
          · simp only [List.length_cons, List.length_nil] at *
            omega
          · intro h; cases h
          · simpa using he
        · have g1 : ∀ c, ¬ kc = N + c := fun c => by omega
          have g2 : ∀ c, ¬ kd = N + c := fun c => by omega
          have g3 : ∀ c, ¬ N + c = kc := fun c => by omega
          have g4 : ∀ c, ¬ N + c = kd := fun c => by omega
          have u1 : ¬ ka = kc := by omega
          have u2 : ¬ ka = kd := by omega
          have u3 : ¬ kb = kc := by omega
          have u4 : ¬ kb = kd := by omega
          have u1' : ¬ kc = ka := by omega
          have u2' : ¬ kd = ka := by omega
          have u3' : ¬ kc = kb := by omega
          have u4' : ¬ kd = kb := by omega
          have c6' : ¬ kd = kc := fun e => c6 e.symm
          have d0 : (out.length + 1) * 17 ≤ 68719476736 := by omega
          have d1 : (out.length + 1) * 9 ≤ 68719476736 := by omega
          have d2 : (out.length + 2) * 17 ≤ 68719476736 := by omega
          have d3 : (out.length + 2) * 9 ≤ 68719476736 := by omega
          have d4 : shown (nameRows out) 0 out.length = nameRows out := shown_all (by simp)
          have d5 : shown (fiRows out) 0 out.length = fiRows out := shown_all (by simp)
          have d6 : ∀ r, shown (nameRows out ++ [r]) 0 (out.length + 1) = nameRows out ++ [r] := fun r => shown_all (by simp)
          have d7 : ∀ r, shown (fiRows out ++ [r]) 0 (out.length + 1) = fiRows out ++ [r] := fun r => shown_all (by simp)
          simp [c1, a1', a2, b1', b2, ltB_eq, ba_list, c3, mostB, lk_set, up_up, Nat.add_assoc, f1, f2, f3, f4, shown_nil, shown_one, hlt2, hes, c4, c5, c6, c6', g1, g2, g3, g4, u1, u2, u3, u4, d0, d1, d2, d3, d4, d5, d6, d7]
          refine ⟨⟨by kernel_rfl, by simp [dynOk, pairsOk, befOf, Region.binds, Eff.apart, Eff.clear, Eff.wkeys, Ref.key, AV.refs0, List.range, List.range.loop, f1, f2, f3, f4, g1, g2, g3, g4, u1, u2, u3, u4, u1', u2', u3', u4', c6, c6']⟩, ?_⟩
          refine ⟨⟨by kernel_rfl, by simp [dynOk, pairsOk, befOf, Region.binds, Eff.apart, Eff.clear, Eff.wkeys, Ref.key, AV.refs0, List.range, List.range.loop, f1, f2, f3, f4, g1, g2, g3, g4, u1, u2, u3, u4, u1', u2', u3', u4', c6, c6']⟩, ?_⟩
          refine hnext (i + 1, out ++ [(s, x.toNat), e], true, _, _, _, _) (by simp only; omega) ⟨hlt, by simp only; omega, fun j hj => ?_, ?_, ?_, ?_, ?_⟩
          · have t1 : ∀ c, ¬ j = N + c := fun c => by omega
            have t2 : ¬ j = kc := by omega
            have t3 : ¬ j = kd := by omega
            simp [lk_set, t1, t2, t3, hfr j hj]
          · exact .inr ⟨kc, _, kd, _, by simp; rfl, by simp; rfl, by simp [lk_set, nameRows, fiRows, g1, g2, c6], by simp [lk_set, nameRows, fiRows, hmax, g1, g2, c6'], c6, c7, by simp only; omega, c9, by simp only; omega⟩
          · simp only [List.length_append, List.length_cons, List.length_nil] at *
            omega
          · intro h; cases h
          · simpa using he
    · cases hes : e.1 == s with
      | true =>
        have hes' : e.1 = s := by simpa using hes
        rw [withF, if_neg hA, if_pos hes'] at he
        cases put with
        | true =>
          rcases h2 with ⟨rfl, rfl, rfl⟩ | ⟨kc, gc, kd, gd, rfl, rfl, c4, c5, c6, c7, c8, c9, c10⟩
          · simp [c1, a1', a2, b1', b2, ltB_eq, ba_list, c3, mostB, lk_set, up_up, Nat.add_assoc, f1, f2, f3, f4, shown_nil, shown_one, hes]
            exact hnext (i + 1, [], true, _, _, _, _) (by simp only; omega) ⟨hlt, by simp only; omega, hfr, .inl ⟨rfl, rfl, rfl⟩, by simp, hput, by simpa using he⟩
          · have g1 : ∀ c, ¬ kc = N + c := fun c => by omega
            have g2 : ∀ c, ¬ kd = N + c := fun c => by omega
            have g3 : ∀ c, ¬ N + c = kc := fun c => by omega
            have g4 : ∀ c, ¬ N + c = kd := fun c => by omega
            have u1 : ¬ ka = kc := by omega
            have u2 : ¬ ka = kd := by omega
            have u3 : ¬ kb = kc := by omega
            have u4 : ¬ kb = kd := by omega
            have u1' : ¬ kc = ka := by omega
            have u2' : ¬ kd = ka := by omega
            have u3' : ¬ kc = kb := by omega
            have u4' : ¬ kd = kb := by omega
            have c6' : ¬ kd = kc := fun e => c6 e.symm
            have d0 : (out.length + 1) * 17 ≤ 68719476736 := by omega
            have d1 : (out.length + 1) * 9 ≤ 68719476736 := by omega
            have d2 : (out.length + 2) * 17 ≤ 68719476736 := by omega
            have d3 : (out.length + 2) * 9 ≤ 68719476736 := by omega
            have d4 : shown (nameRows out) 0 out.length = nameRows out := shown_all (by simp)
            have d5 : shown (fiRows out) 0 out.length = fiRows out := shown_all (by simp)
            have d6 : ∀ r, shown (nameRows out ++ [r]) 0 (out.length + 1) = nameRows out ++ [r] := fun r => shown_all (by simp)
            have d7 : ∀ r, shown (fiRows out ++ [r]) 0 (out.length + 1) = fiRows out ++ [r] := fun r => shown_all (by simp)
            simp [c1, a1', a2, b1', b2, ltB_eq, ba_list, c3, mostB, lk_set, up_up, Nat.add_assoc, f1, f2, f3, f4, shown_nil, shown_one, hes, c4, c5, c6, c6', g1, g2, g3, g4, u1, u2, u3, u4, d0, d1, d2, d3, d4, d5, d6, d7]
            exact hnext (i + 1, out, true, _, _, _, _) (by simp only; omega) ⟨hlt, by simp only; omega, hfr, .inr ⟨kc, gc, kd, gd, rfl, rfl, c4, c5, c6, c7, by simp only; omega, c9, by simp only; omega⟩, by simp only; omega, hput, by simpa using he⟩
        | false =>
          have hlt2 : ltB e.1 s = true := by simpa using hA
          exact absurd hes' (ltB_ne hlt2)
      | false =>
        have hes' : ¬ e.1 = s := by simpa using hes
        rw [withF, if_neg hA, if_neg hes'] at he
        cases put with
        | true =>
          rcases h2 with ⟨rfl, rfl, rfl⟩ | ⟨kc, gc, kd, gd, rfl, rfl, c4, c5, c6, c7, c8, c9, c10⟩
          · simp [c1, a1', a2, b1', b2, ltB_eq, ba_list, c3, mostB, lk_set, up_up, Nat.add_assoc, f1, f2, f3, f4, shown_nil, shown_one, hes]
            refine ⟨⟨by kernel_rfl, by simp [dynOk, pairsOk, befOf, Region.binds, Eff.apart, Eff.clear, Eff.wkeys, Ref.key, AV.refs0, List.range, List.range.loop, f1, f2, f3, f4]⟩, ?_⟩
            refine hnext (i + 1, [e], true, _, _, _, _) (by simp only; omega) ⟨hlt, by simp only; omega, fun j hj => ?_, ?_, ?_, ?_, ?_⟩
            · have t1 : ∀ c, ¬ j = N + c := fun c => by omega
              simp [lk_set, t1, hfr j hj]
            · exact .inr ⟨_, _, _, _, rfl, rfl, by simp [lk_set, nameRows, fiRows], by simp [lk_set, nameRows, fiRows], by omega, by omega, by simp only; omega, by omega, by simp only; omega⟩
            · simp only [List.length_cons, List.length_nil] at *
              omega
            · exact hput
            · simpa using he
          · have g1 : ∀ c, ¬ kc = N + c := fun c => by omega
            have g2 : ∀ c, ¬ kd = N + c := fun c => by omega
            have g3 : ∀ c, ¬ N + c = kc := fun c => by omega
            have g4 : ∀ c, ¬ N + c = kd := fun c => by omega
            have u1 : ¬ ka = kc := by omega
            have u2 : ¬ ka = kd := by omega
            have u3 : ¬ kb = kc := by omega
            have u4 : ¬ kb = kd := by omega
            have u1' : ¬ kc = ka := by omega
            have u2' : ¬ kd = ka := by omega
            have u3' : ¬ kc = kb := by omega
            have u4' : ¬ kd = kb := by omega
            have c6' : ¬ kd = kc := fun e => c6 e.symm
            have d0 : (out.length + 1) * 17 ≤ 68719476736 := by omega
            have d1 : (out.length + 1) * 9 ≤ 68719476736 := by omega
            have d2 : (out.length + 2) * 17 ≤ 68719476736 := by omega
            have d3 : (out.length + 2) * 9 ≤ 68719476736 := by omega
            have d4 : shown (nameRows out) 0 out.length = nameRows out := shown_all (by simp)
            have d5 : shown (fiRows out) 0 out.length = fiRows out := shown_all (by simp)
            have d6 : ∀ r, shown (nameRows out ++ [r]) 0 (out.length + 1) = nameRows out ++ [r] := fun r => shown_all (by simp)
            have d7 : ∀ r, shown (fiRows out ++ [r]) 0 (out.length + 1) = fiRows out ++ [r] := fun r => shown_all (by simp)
            simp [c1, a1', a2, b1', b2, ltB_eq, ba_list, c3, mostB, lk_set, up_up, Nat.add_assoc, f1, f2, f3, f4, shown_nil, shown_one, hes, c4, c5, c6, c6', g1, g2, g3, g4, u1, u2, u3, u4, d0, d1, d2, d3, d4, d5, d6, d7]
            refine ⟨⟨by kernel_rfl, by simp [dynOk, pairsOk, befOf, Region.binds, Eff.apart, Eff.clear, Eff.wkeys, Ref.key, AV.refs0, List.range, List.range.loop, f1, f2, f3, f4, g1, g2, g3, g4, u1, u2, u3, u4, u1', u2', u3', u4', c6, c6']⟩, ?_⟩
            refine hnext (i + 1, out ++ [e], true, _, _, _, _) (by simp only; omega) ⟨hlt, by simp only; omega, fun j hj => ?_, ?_, ?_, ?_, ?_⟩
            · have t1 : ∀ c, ¬ j = N + c := fun c => by omega
              have t2 : ¬ j = kc := by omega
              have t3 : ¬ j = kd := by omega
              simp [lk_set, t1, t2, t3, hfr j hj]
            · exact .inr ⟨kc, _, kd, _, by simp; rfl, by simp; rfl, by simp [lk_set, nameRows, fiRows, g1, g2, c6], by simp [lk_set, nameRows, fiRows, g1, g2, c6'], c6, c7, by simp only; omega, c9, by simp only; omega⟩
            · simp only [List.length_append, List.length_cons, List.length_nil] at *
              omega
            · exact hput
            · simpa using he
        | false =>
          have hlt2 : ltB e.1 s = true := by simpa using hA
          rcases h2 with ⟨rfl, rfl, rfl⟩ | ⟨kc, gc, kd, gd, rfl, rfl, c4, c5, c6, c7, c8, c9, c10⟩
          · simp [c1, a1', a2, b1', b2, ltB_eq, ba_list, c3, mostB, lk_set, up_up, Nat.add_assoc, f1, f2, f3, f4, shown_nil, shown_one, hes, hlt2]
            refine ⟨⟨by kernel_rfl, by simp [dynOk, pairsOk, befOf, Region.binds, Eff.apart, Eff.clear, Eff.wkeys, Ref.key, AV.refs0, List.range, List.range.loop, f1, f2, f3, f4]⟩, ?_⟩
            refine hnext (i + 1, [e], false, _, _, _, _) (by simp only; omega) ⟨hlt, by simp only; omega, fun j hj => ?_, ?_, ?_, ?_, ?_⟩
            · have t1 : ∀ c, ¬ j = N + c := fun c => by omega
              simp [lk_set, t1, hfr j hj]
            · exact .inr ⟨_, _, _, _, rfl, rfl, by simp [lk_set, nameRows, fiRows], by simp [lk_set, nameRows, fiRows], by omega, by omega, by simp only; omega, by omega, by simp only; omega⟩
            · simp only [List.length_cons, List.length_nil] at *
              omega
            · exact hput
            · simpa using he
          · have g1 : ∀ c, ¬ kc = N + c := fun c => by omega
            have g2 : ∀ c, ¬ kd = N + c := fun c => by omega
            have g3 : ∀ c, ¬ N + c = kc := fun c => by omega
            have g4 : ∀ c, ¬ N + c = kd := fun c => by omega
            have u1 : ¬ ka = kc := by omega
            have u2 : ¬ ka = kd := by omega
            have u3 : ¬ kb = kc := by omega
            have u4 : ¬ kb = kd := by omega
            have u1' : ¬ kc = ka := by omega
            have u2' : ¬ kd = ka := by omega
            have u3' : ¬ kc = kb := by omega
            have u4' : ¬ kd = kb := by omega
            have c6' : ¬ kd = kc := fun e => c6 e.symm
            have d0 : (out.length + 1) * 17 ≤ 68719476736 := by omega
            have d1 : (out.length + 1) * 9 ≤ 68719476736 := by omega
            have d2 : (out.length + 2) * 17 ≤ 68719476736 := by omega
            have d3 : (out.length + 2) * 9 ≤ 68719476736 := by omega
            have d4 : shown (nameRows out) 0 out.length = nameRows out := shown_all (by simp)
            have d5 : shown (fiRows out) 0 out.length = fiRows out := shown_all (by simp)
            have d6 : ∀ r, shown (nameRows out ++ [r]) 0 (out.length + 1) = nameRows out ++ [r] := fun r => shown_all (by simp)
            have d7 : ∀ r, shown (fiRows out ++ [r]) 0 (out.length + 1) = fiRows out ++ [r] := fun r => shown_all (by simp)
            simp [c1, a1', a2, b1', b2, ltB_eq, ba_list, c3, mostB, lk_set, up_up, Nat.add_assoc, f1, f2, f3, f4, shown_nil, shown_one, hes, hlt2, c4, c5, c6, c6', g1, g2, g3, g4, u1, u2, u3, u4, d0, d1, d2, d3, d4, d5, d6, d7]
            refine ⟨⟨by kernel_rfl, by simp [dynOk, pairsOk, befOf, Region.binds, Eff.apart, Eff.clear, Eff.wkeys, Ref.key, AV.refs0, List.range, List.range.loop, f1, f2, f3, f4, g1, g2, g3, g4, u1, u2, u3, u4, u1', u2', u3', u4', c6, c6']⟩, ?_⟩
            refine hnext (i + 1, out ++ [e], false, _, _, _, _) (by simp only; omega) ⟨hlt, by simp only; omega, fun j hj => ?_, ?_, ?_, ?_, ?_⟩
            · have t1 : ∀ c, ¬ j = N + c := fun c => by omega
              have t2 : ¬ j = kc := by omega
              have t3 : ¬ j = kd := by omega
              simp [lk_set, t1, t2, t3, hfr j hj]
            · exact .inr ⟨kc, _, kd, _, by simp; rfl, by simp; rfl, by simp [lk_set, nameRows, fiRows, g1, g2, c6], by simp [lk_set, nameRows, fiRows, g1, g2, c6'], c6, c7, by simp only; omega, c9, by simp only; omega⟩
            · simp only [List.length_append, List.length_cons, List.length_nil] at *
              omega
            · exact hput
            · simpa using he
  · obtain rfl : i = w.length := by omega
    simp only [List.drop_length] at he
    have ha0 : ∃ z, a = .vs true z [] ∧ w.length = 0 ∨ ∃ k g i0, a = .rs k g i0 w.length 1 := by
      rcases ha with ⟨h, z, rfl⟩ | ⟨k, g, i0, all, h, _⟩
      · exact ⟨z, .inl ⟨rfl, by simpa using congrArg List.length h⟩⟩
      · exact ⟨0, .inr ⟨k, g, i0, by simpa using h⟩⟩
    have hal : slLen a = some w.length := by simpa using ha.len
    cases put with
    | true =>
      have he2 : out = withF s x.toNat (decide (x < 0)) w := by simpa [withF] using he
      obtain ⟨z, ⟨rfl, hw0⟩ | ⟨k, g, i0, rfl⟩⟩ := ha0
      · simp [hw0, h2.ok1, h2.ok2]
        refine hQ _ _ _ ?_
        exact ⟨by omega, hfr, oa, ob, rfl, he2 ▸ h2.mono (by omega)⟩
      · simp [h2.ok1, h2.ok2]
        refine hQ _ _ _ ?_
        exact ⟨by omega, hfr, oa, ob, rfl, he2 ▸ h2.mono (by omega)⟩
    | false =>
      have hmax : max x 0 = x := Int.max_eq_left (hput rfl)
      have he2 : out ++ [(s, x.toNat)] = withF s x.toNat (decide (x < 0)) w := by simpa [withF] using he
      rw [← he2] at hQ
      rcases h2 with ⟨rfl, rfl, rfl⟩ | ⟨kc, gc, kd, gd, rfl, rfl, c4, c5, c6, c7, c8, c9, c10⟩
      · obtain ⟨z, ⟨rfl, hw0⟩ | ⟨k, g, i0, rfl⟩⟩ := ha0
        all_goals
          simp [mostB, lk_set, up_up, Nat.add_assoc, shown_nil, shown_one]
          refine ⟨⟨by kernel_rfl, by simp [dynOk, pairsOk, befOf, Region.binds, Eff.apart, Eff.clear, Eff.wkeys, Ref.key, AV.refs0, List.range, List.range.loop]⟩, ?_⟩
          refine hQ _ _ _ ?_
          refine ⟨by omega, fun j hj => ?_, _, _, rfl, .inr ⟨_, _, _, _, rfl, rfl, by simp [lk_set, nameRows, fiRows], by simp [lk_set, nameRows, fiRows, hmax], by omega, by omega, by omega, by omega, by omega⟩⟩
          have t1 : ∀ c, ¬ j = N + c := fun c => by omega
          simp [lk_set, t1, hfr j hj]
      · have g1 : ∀ c, ¬ kc = N + c := fun c => by omega
        have g2 : ∀ c, ¬ kd = N + c := fun c => by omega
        have g3 : ∀ c, ¬ N + c = kc := fun c => by omega
        have g4 : ∀ c, ¬ N + c = kd := fun c => by omega
        have c6' : ¬ kd = kc := fun e => c6 e.symm
        have d0 : (out.length + 1) * 17 ≤ 68719476736 := by omega
        have d1 : (out.length + 1) * 9 ≤ 68719476736 := by omega
        have d4 : shown (nameRows out) 0 out.length = nameRows out := shown_all (by simp)
        have d5 : shown (fiRows out) 0 out.length = fiRows out := shown_all (by simp)
        obtain ⟨z, ⟨rfl, hw0⟩ | ⟨k, g, i0, rfl⟩⟩ := ha0
        all_goals
          simp [mostB, lk_set, up_up, Nat.add_assoc, shown_nil, shown_one, c4, c5, c6, c6', g1, g2, g3, g4, d0, d1, d4, d5]
          refine ⟨⟨by kernel_rfl, by simp [dynOk, pairsOk, befOf, Region.binds, Eff.apart, Eff.clear, Eff.wkeys, Ref.key, AV.refs0, List.range, List.range.loop, g1, g2, g3, g4, c6, c6']⟩, ?_⟩
          refine hQ _ _ _ ?_
          refine ⟨by omega, fun j hj => ?_, _, _, rfl, .inr ⟨kc, _, kd, _, by simp; rfl, by simp; rfl, by simp [lk_set, nameRows, fiRows, g1, g2, c6], by simp [lk_set, nameRows, fiRows, hmax, g1, g2, c6'], c6, c7, by omega, c9, by omega⟩⟩
          have t1 : ∀ c, ¬ j = N + c := fun c => by omega
          have t2 : ¬ j = kc := by omega
          have t3 : ¬ j = kd := by omega
          simp [lk_set, t1, t2, t3, hfr j hj]

end Ab
end Go.Proofs.Ytecjchghapgdeaa
