/-
  DERIVED. shell.words, lockstepref30.rest: what they come to.
  Conditions: texts shorter than the rounds that are let.
-/
import Derived.Test.YtfkffpcnknlbhaaDoorR5
set_option linter.all false
set_option maxHeartbeats 4000000
namespace Go.Proofs.YtfkffpcnknlbhaaDoor
namespace Ab
set_option maxRecDepth 100000
set_option maxHeartbeats 4000000
set_option linter.all false
attribute [local simp] appendA appRow newsA rowsSz rowsOf isIntD makeSliceA elemOf rowsBuilt

theorem pR_of' {C : Cfg} {call : CallT} {k : Nat} {f : FuncId} {args : List AV} {Q : AV → Hp → Nat → Prop} {X : AV} (h : Ends C call k f args [] 0 Q) (hq : ∀ r hp nx, Q r hp nx → frz (hget hp) frzDepth r = some X) : pR (runA C call k) f args = some X := by
  obtain ⟨r', hp', nx', h1, h2⟩ := h
  unfold pR
  rw [h1]
  exact hq _ _ _ h2
theorem pR_ex {C : Cfg} {call : CallT} {k : Nat} {f : FuncId} {args : List AV} {Q : AV → Hp → Nat → Prop} {P : AV → Prop} (h : Ends C call k f args [] 0 Q) (hq : ∀ r hp nx, Q r hp nx → ∃ X, frz (hget hp) frzDepth r = some X ∧ P X) : ∃ X, pR (runA C call k) f args = some X ∧ P X := by
  obtain ⟨r', hp', nx', h1, h2⟩ := h
  unfold pR
  rw [h1]
  exact hq _ _ _ h2

theorem run19 (call : CallT) (k : Nat) (l : Bs) (h30 : pR call 30 [.s (ba l), .fn 31 []] = some (.vs false 1 (txts (wordsOf l)))) :
    Ends cfg call k 19 [.s (ba l)] [] 0 fun r _ _ => r = .vs false 1 (txts (wordsOf l)) := by
  refine run_wp Tryd.func19 rfl (by simp [Tryd.f19]) ?_
  simp [h30]

theorem nxR_le (l : Bs) : (nxR l).length ≤ l.length := by
  have h1 := blanks_le l
  have h2 : blanks l = nxW l ++ nxR l := (List.takeWhile_append_dropWhile).symm
  have h3 := congrArg List.length h2
  simp at h3
  omega
theorem nxW_le (l : Bs) : (nxW l).length ≤ l.length := by
  have h1 := blanks_le l
  have h2 : blanks l = nxW l ++ nxR l := (List.takeWhile_append_dropWhile).symm
  have h3 := congrArg List.length h2
  simp at h3
  omega
theorem SVal.app0 {hp : Hp} {n nx : Nat} {x : Bs} (h : n < nx) : SVal 1 (up hp n (0, .arr 1 [[.s (ba x)]])) nx (.rs n 0 0 1 1) (txts ([] ++ [x])) :=
  .inr ⟨n, 0, rfl, by simp [lk_set, txts], h, by simp [txts]⟩
theorem SVal.appS {hp : Hp} {n nx g : Nat} {x : Bs} {L : List Bs} (h : n < nx) : SVal 1 (up hp n (g + 1, .arr 1 (txts L ++ [[.s (ba x)]]))) nx (.rs n (g + 1) 0 (L.length + 1) 1) (txts (L ++ [x])) :=
  .inr ⟨n, g + 1, by simp [txts], by simp [lk_set, txts], h, by simp [txts]⟩
/-- The kinds that there are. -/
def kindsOk (ks : Bs) : Prop := ∀ k ∈ ks, k = 68 ∨ k = 78 ∨ k = 86 ∨ k = 87

def RestQ (ks l : Bs) (r : AV) (hp : Hp) (nx : Nat) : Prop := match readArgs ks l with
  | some a => ∃ v, r = .tup [v, .b true] ∧ SVal 1 hp nx v (txts a)
  | none => ∃ v rows, r = .tup [v, .b false] ∧ SVal 1 hp nx v (txts rows)

theorem loop10b (call : CallT) (k : Nat) (l m : Bs) (L : List Bs) (nx0 : Nat) (v0 : AV) (hp0 : Hp) (s0 : ByteArray) (i0 : Int) (hm : m.length ≤ l.length) (hl : l.length < 2 ^ 20) (hL : L.length < 100) (hk : l.length < k)
    (h8 : ∀ m : Bs, m.length ≤ l.length → pR call 8 [.s (ba m)] = some (.tup [.s (ba (nxW m)), .s (ba (nxR m))]))
    (hv0 : SVal 1 hp0 nx0 v0 (txts L)) {Q : Ex × St → Prop}
    (hQ : ∀ v hp nx, SVal 1 hp nx v (txts (L ++ wordsOf m)) → ∀ w r, Q (.exit 2, { env := [(6, v), (9, w), (10, r), (39, .b false)], loc := [], hp := hp, nx := nx })) :
    wp (loopK cfg call k 10 (loopOf Tryd.f10 1) { env := [(0, .s s0), (6, v0), (7, .i .i64 i0), (9, .s (ba (nxW m))), (10, .s (ba (nxR m))), (37, .b true)], loc := [], hp := hp0, nx := nx0 }) Q := by
  have hwm := fun h => nxR_lt m h
  refine loop_wp (ι := Nat × AV × Hp × List Bs × Bs × Bs × List (Nat × AV) × List (Nat × AV) × List (Nat × AV))
    (fun i => { env := i.2.2.2.2.2.2.1 ++ [(6, i.2.1)] ++ i.2.2.2.2.2.2.2.1 ++ [(9, .s (ba i.2.2.2.2.1)), (10, .s (ba i.2.2.2.2.2.1))] ++ i.2.2.2.2.2.2.2.2, loc := [], hp := i.2.2.1, nx := i.1 }) (fun i => if i.2.2.2.2.1 = [] then 0 else i.2.2.2.2.2.1.length + 1)
    (fun i => SVal 1 i.2.2.1 i.1 i.2.1 (txts i.2.2.2.1) ∧ i.2.2.2.2.2.1.length ≤ l.length ∧ i.2.2.2.1 ++ (if i.2.2.2.2.1 = [] then [] else i.2.2.2.2.1 :: wordsOf i.2.2.2.2.2.1) = L ++ wordsOf m ∧ (i.2.2.2.2.1 ≠ [] → i.2.2.2.1.length + i.2.2.2.2.2.1.length < L.length + m.length) ∧
      (i.2.2.2.2.2.2 = ([], [], []) ∨ i.2.2.2.2.2.2 = ([(0, .s s0)], [(7, .i .i64 i0)], [(37, .b true)]))) (nx0, v0, hp0, L, nxW m, nxR m, [(0, .s s0)], [(7, .i .i64 i0)], [(37, .b true)]) rfl
      ⟨hv0, by have := nxR_le m; simp only; omega, by simp only; rw [← wordsOf_step], fun h => by have := hwm h; simp only; omega, .inr rfl⟩ ?_ ?_
  · simp only
    by_cases h : nxW m = []
    · simp [h]; omega
    · have := hwm h
      simp only [h, if_false]; omega
  rintro Next ⟨nx, v, hp, L', w, r, e1, e2, e3⟩ ⟨hv, hr, heq, hlen, he⟩ hnext
  simp only at hv hr heq hlen he hnext ⊢
  have hr8 := h8 r hr
  by_cases hw : w = []
  · subst hw
    simp at heq
    rw [heq] at hv
    rcases hv with ⟨g1, rfl⟩ | ⟨kk, gg, rfl, g2, g3, g4⟩
    · rcases he with he | he <;> (simp only [Prod.mk.injEq] at he; obtain ⟨rfl, rfl, rfl⟩ := he) <;> simp [loopOf, loopsIn, Tryd.f10] <;>
        exact hQ _ _ _ (.inl ⟨g1, rfl⟩) _ _
    · rcases he with he | he <;> (simp only [Prod.mk.injEq] at he; obtain ⟨rfl, rfl, rfl⟩ := he) <;> simp [loopOf, loopsIn, Tryd.f10] <;>
        exact hQ _ _ _ (.inr ⟨kk, gg, rfl, g2, by omega, g4⟩) _ _
  · have hw2 : w.isEmpty = false := by simpa using hw
    have hlt := hlen hw
    simp only [hw, if_false] at heq
    have d1 : (L'.length + 1) * 17 ≤ 68719476736 := by omega
    have hrr := fun h => nxR_lt r h
    have hrl := nxR_le r
    have hn := fun nx' v' hp' h1 => hnext (nx', v', hp', L' ++ [w], nxW r, nxR r, [], [], []) (by
        simp only [hw, if_false]
        by_cases h : nxW r = []
        · simp [h]
        · have := hrr h; simp only [h, if_false]; omega) ⟨h1, by simp only; omega, by simp only; rw [← wordsOf_step, List.append_assoc]; exact heq, fun h => by have := hrr h; simp; omega, .inl rfl⟩
    simp only [List.nil_append, List.append_nil, List.singleton_append, List.cons_append] at hn
    rcases hv with ⟨g1, rfl⟩ | ⟨kk, gg, rfl, g2, g3, g4⟩
    · have g1' : L' = [] := by simpa [txts] using g1
      subst g1'
      rcases he with he | he <;> (simp only [Prod.mk.injEq] at he; obtain ⟨rfl, rfl, rfl⟩ := he) <;> simp [loopOf, loopsIn, Tryd.f10, mostB, Nat.add_assoc, lk_set, hw2, hr8] <;>
        exact hn _ _ _ (.app0 (by omega))
    · have f1 : ∀ c, ¬ kk = nx + c := fun c => by omega
      have f2 : ∀ c, ¬ nx + c = kk := fun c => by omega
      rcases he with he | he <;> (simp only [Prod.mk.injEq] at he; obtain ⟨rfl, rfl, rfl⟩ := he) <;> simp [loopOf, loopsIn, Tryd.f10, mostB, Nat.add_assoc, lk_set, hw2, hr8, g2, f1, f2, txts_len, d1] <;>
        exact hn _ _ _ (.appS (by omega))

theorem run10 (call : CallT) (k : Nat) (ks l : Bs) (hks : kindsOk ks) (hl : l.length < 2 ^ 20) (hk : l.length < k) (hk2 : ks.length < k) (hks2 : ks.length < 100)
    (h8 : ∀ m : Bs, m.length ≤ l.length → pR call 8 [.s (ba m)] = some (.tup [.s (ba (nxW m)), .s (ba (nxR m))]))
    (h13 : ∀ m : Bs, m.length ≤ l.length → pR call 13 [.s (ba m)] = some (.s (ba (trim m))))
    (h14 : ∀ m : Bs, pR call 14 [.s (ba m)] = some (.i .i64 (numR m))) :
    Ends cfg call k 10 [.s (ba (ks.map star)), .s (ba l)] [] 0 fun r hp nx => RestQ ks l r hp nx := by
  refine run_wp Tryd.func10 rfl (by simp [Tryd.f10]) ?_
  obtain ⟨Q, hQ⟩ : ∃ Q : AV → Hp → Nat → Prop, Q = fun r hp nx => RestQ ks l r hp nx := ⟨_, rfl⟩
  have hsome : ∀ a v hp nx, readArgs ks l = some a → SVal 1 hp nx v (txts a) → Q (.tup [v, .b true]) hp nx := by
    intro a v hp nx h h2
    rw [hQ]
    show RestQ ks l _ hp nx
    unfold RestQ
    rw [h]
    exact ⟨v, rfl, h2⟩
  have hnone : ∀ rows v hp nx, readArgs ks l = none → SVal 1 hp nx v (txts rows) → Q (.tup [v, .b false]) hp nx := by
    intro rows v hp nx h h2
    rw [hQ]
    show RestQ ks l _ hp nx
    unfold RestQ
    rw [h]
    exact ⟨v, rows, rfl, h2⟩
  rw [← hQ]
  simp
  refine loop_wp (ι := Nat × Nat × AV × Hp × List Bs × Bs) (fun i => { env := [(0, .s (ba (ks.map star))), (1, .s (ba i.2.2.2.2.2)), (6, i.2.2.1), (7, .i .i64 (i.1 : Nat))], loc := [], hp := i.2.2.2.1, nx := i.2.1 }) (fun i => ks.length - i.1)
    (fun i => i.1 ≤ ks.length ∧ SVal 1 i.2.2.2.1 i.2.1 i.2.2.1 (txts i.2.2.2.2.1) ∧ i.2.2.2.2.1.length ≤ i.1 ∧ i.2.2.2.2.2.length ≤ l.length ∧ readArgs ks l = (readArgs (ks.drop i.1) i.2.2.2.2.2).map (i.2.2.2.2.1 ++ ·)) (0, _, .vs true 0 [], [], [], l) rfl ⟨Nat.zero_le _, .inl ⟨rfl, rfl⟩, Nat.zero_le _, Nat.le_refl _, by simp⟩ (by simpa using hk2) ?_
  rintro Next ⟨i, nx, v, hp, L, m⟩ ⟨hi0, hv, hL, hm, hrd⟩ hnext
  simp only at hi0 hv hL hm hrd hnext ⊢
  have hm8 := h8 m hm
  have hm13 := h13 m hm
  by_cases hi : i < ks.length
  · obtain ⟨c, hx, hd⟩ := at_get hi
    have c1 : (i : Int) < ks.length := by omega
    have c2 : (0 : Int) ≤ i := by omega
    have c3 : IntKind.i64.wrap ((i : Int) + 1) = i + 1 := wrap_i64 (by omega) (by omega)
    have hx2 : (ks.map star)[i]? = some (star c) := by simp [hx]
    have hnx := nxR_le m
    rw [hd] at hrd
    have f1 : ∀ kk, kk < nx → ∀ c, ¬ kk = nx + c := fun kk h c => by omega
    have f2 : ∀ kk, kk < nx → ∀ c, ¬ nx + c = kk := fun kk h c => by omega
    have d1 : (L.length + 1) * 17 ≤ 68719476736 := by omega
    by_cases h86 : c = 86
    · subst h86
      have s1 : star 86 = 86 := rfl
      rw [s1] at hx2
      have hq : ∀ v hp nx, SVal 1 hp nx v (txts (L ++ [trim m])) → Q (.tup [v, .b (!(trim m).isEmpty)]) hp nx := by
        intro v hp nx hv
        by_cases ht : trim m = []
        · rw [show (!(trim m).isEmpty) = false by simp [ht]]
          exact hnone (L ++ [trim m]) _ _ _ (by rw [hrd]; simp [readArgs, ht]) hv
        · rw [show (!(trim m).isEmpty) = true by simp [ht]]
          exact hsome (L ++ [trim m]) _ _ _ (by rw [hrd]; simp [readArgs, ht]) hv
      rcases hv with ⟨e1, rfl⟩ | ⟨kk, gg, rfl, e2, e3, e4⟩
      · have e1' : L = [] := by simpa [txts] using e1
        subst e1'
        simp [mostB, Nat.add_assoc, lk_set, c1, c2, hx2, hm13]
        exact hq _ _ _ (.app0 (by omega))
      · have f1 := f1 kk e3
        have f2 := f2 kk e3
        simp [mostB, Nat.add_assoc, lk_set, c1, c2, hx2, hm13, e2, f1, f2, txts_len, d1]
        exact hq _ _ _ (.appS (by omega))
    have s1 : star c ≠ 86 := by
      unfold star
      by_cases h : c = 87 <;> simp [h, h86]
    have g86 := byte_ne (c := 86) (n := 86) rfl s1
    by_cases h87 : c = 87
    · subst h87
      have s1 : star 87 = 42 := rfl
      rw [s1] at hx2 g86
      have hq : ∀ v hp nx, SVal 1 hp nx v (txts (L ++ wordsOf m)) → Q (.tup [v, .b true]) hp nx := by
        intro v hp nx hv
        exact hsome _ _ _ _ (by rw [hrd]; simp [readArgs]) hv
      rcases hv with ⟨e1, rfl⟩ | ⟨kk, gg, rfl, e2, e3, e4⟩
      · simp [mostB, Nat.add_assoc, lk_set, c1, c2, hx2, hm8]
        refine loop10b call k l m L _ _ _ _ _ hm hl (by omega) hk h8 (.inl ⟨e1, rfl⟩) ?_
        rintro v hp nx (⟨g1, rfl⟩ | ⟨kk, gg, rfl, g2, g3, g4⟩) w r
        · simp
          exact hq _ _ _ (.inl ⟨g1, rfl⟩)
        · simp
          exact hq _ _ _ (.inr ⟨kk, gg, rfl, g2, by omega, g4⟩)
      · simp [mostB, Nat.add_assoc, lk_set, c1, c2, hx2, hm8]
        refine loop10b call k l m L _ _ _ _ _ hm hl (by omega) hk h8 (.inr ⟨kk, gg, rfl, e2, by omega, e4⟩) ?_
        rintro v hp nx (⟨g1, rfl⟩ | ⟨kk, gg, rfl, g2, g3, g4⟩) w r
        · simp
          exact hq _ _ _ (.inl ⟨g1, rfl⟩)
        · simp
          exact hq _ _ _ (.inr ⟨kk, gg, rfl, g2, by omega, g4⟩)
    · have s2 : star c = c := by simp [star, h87]
      rw [s2] at hx2 g86
      have g42 := byte_ne (c := 42) (n := 42) rfl (show c ≠ 42 by rintro rfl; rcases hks _ (List.mem_of_getElem? hx) with h | h | h | h <;> exact absurd h (by decide))
      have hrd2 : readArgs ks l = if fitsW c (nxW m) = true then (readArgs (ks.drop (i + 1)) (nxR m)).map ((L ++ [nxW m]) ++ ·) else none := by
        rw [hrd]
        simp only [readArgs, h86, h87, if_false]
        by_cases hf : fitsW c (nxW m) = true
        · simp only [hf, if_true, Option.map_map]
          congr 1
          funext x
          simp
        · simp [hf]
      by_cases hw : nxW m = []
      · have hf : fitsW c (nxW m) = false := by simp [fitsW, hw]
        rw [hf] at hrd2
        have hz := fun hp nx => hnone [] (.vs true 0 []) hp nx (by rw [hrd2]; simp) (.inl ⟨rfl, rfl⟩)
        rcases hv with ⟨e1, rfl⟩ | ⟨kk, gg, rfl, e2, e3, e4⟩
        · simp [mostB, Nat.add_assoc, lk_set, c1, c2, hx2, hm8, g86, g42, hw]
          exact hz _ _
        · simp [mostB, Nat.add_assoc, lk_set, c1, c2, hx2, hm8, g86, g42, hw]
          exact hz _ _
      have hw2 : (nxW m).isEmpty = false := by simpa using hw
      have hnum := numR_neg (nxW m)
      have hm14 := h14 (nxW m)
      by_cases hf : fitsW c (nxW m) = true
      · rw [if_pos hf] at hrd2
        have hn := fun nx' v' hp' h1 => hnext (i + 1, nx', v', hp', L ++ [nxW m], nxR m) (by simp only; omega) ⟨hi, h1, by simp; omega, by simp only; omega, hrd2⟩
        simp only [Int.natCast_add, Int.cast_ofNat_Int] at hn
        by_cases h68 : c = 68
        · subst h68
          have g2 : decide (numR (nxW m) < 0) = false := by rw [hnum, hf]; rfl
          have g3 : ¬ numR (nxW m) < 0 := by simpa using g2
          rcases hv with ⟨e1, rfl⟩ | ⟨kk, gg, rfl, e2, e3, e4⟩
          · have e1' : L = [] := by simpa [txts] using e1
            subst e1'
            simp [mostB, Nat.add_assoc, lk_set, c1, c2, c3, hx2, hm8, hm14, g86, g42, hw2, g3]
            exact hn _ _ _ (.app0 (by omega))
          · have f1 := f1 kk e3
            have f2 := f2 kk e3
            simp [mostB, Nat.add_assoc, lk_set, c1, c2, c3, hx2, hm8, hm14, g86, g42, hw2, g3, e2, f1, f2, txts_len, d1]
            exact hn _ _ _ (.appS (by omega))
        · have g68 := byte_ne (c := 68) (n := 68) rfl h68
          have hc : c = 78 := by
            rcases hks _ (List.mem_of_getElem? hx) with h | h | h | h
            · exact absurd h h68
            · exact h
            · exact absurd h h86
            · exact absurd h h87
          subst hc
          have g3 : ¬ (32 : Int) < (nxW m).length := by
            simp [fitsW] at hf
            omega
          rcases hv with ⟨e1, rfl⟩ | ⟨kk, gg, rfl, e2, e3, e4⟩
          · have e1' : L = [] := by simpa [txts] using e1
            subst e1'
            simp [mostB, Nat.add_assoc, lk_set, c1, c2, c3, hx2, hm8, hm14, g86, g42, g68, hw2, g3]
            exact hn _ _ _ (.app0 (by omega))
          · have f1 := f1 kk e3
            have f2 := f2 kk e3
            simp [mostB, Nat.add_assoc, lk_set, c1, c2, c3, hx2, hm8, hm14, g86, g42, g68, hw2, g3, e2, f1, f2, txts_len, d1]
            exact hn _ _ _ (.appS (by omega))
      · rw [if_neg hf] at hrd2
        have hz := fun hp nx => hnone [] (.vs true 0 []) hp nx hrd2 (.inl ⟨rfl, rfl⟩)
        by_cases h68 : c = 68
        · subst h68
          have g2 : decide (numR (nxW m) < 0) = true := by rw [hnum, Bool.eq_false_iff.2 hf]; rfl
          have g3 : numR (nxW m) < 0 := by simpa using g2
          rcases hv with ⟨e1, rfl⟩ | ⟨kk, gg, rfl, e2, e3, e4⟩
          · simp [mostB, Nat.add_assoc, lk_set, c1, c2, c3, hx2, hm8, hm14, g86, g42, hw2, g3]
            exact hz _ _
          · simp [mostB, Nat.add_assoc, lk_set, c1, c2, c3, hx2, hm8, hm14, g86, g42, hw2, g3]
            exact hz _ _
        · have g68 := byte_ne (c := 68) (n := 68) rfl h68
          have hc : c = 78 := by
            rcases hks _ (List.mem_of_getElem? hx) with h | h | h | h
            · exact absurd h h68
            · exact h
            · exact absurd h h86
            · exact absurd h h87
          subst hc
          have g3 : (32 : Int) < (nxW m).length := by
            simp [fitsW, hw] at hf
            omega
          rcases hv with ⟨e1, rfl⟩ | ⟨kk, gg, rfl, e2, e3, e4⟩
          · simp [mostB, Nat.add_assoc, lk_set, c1, c2, c3, hx2, hm8, hm14, g86, g42, g68, hw2, g3]
            exact hz _ _
          · simp [mostB, Nat.add_assoc, lk_set, c1, c2, c3, hx2, hm8, hm14, g86, g42, g68, hw2, g3]
            exact hz _ _
  · obtain rfl : i = ks.length := by omega
    rw [List.drop_of_length_le (Nat.le_refl _)] at hrd
    by_cases ht : trim m = []
    · have hrd2 : readArgs ks l = some L := by rw [hrd]; simp [readArgs, ht]
      rcases hv with ⟨e1, rfl⟩ | ⟨kk, gg, rfl, e2, e3, e4⟩
      · simp [hm13, ht]
        exact hsome L _ _ _ hrd2 (.inl ⟨e1, rfl⟩)
      · simp [hm13, ht]
        exact hsome L _ _ _ hrd2 (.inr ⟨kk, gg, rfl, e2, by omega, e4⟩)
    · have hrd2 : readArgs ks l = none := by rw [hrd]; simp [readArgs, ht]
      have ht2 : (trim m).isEmpty = false := by simpa using ht
      rcases hv with ⟨e1, rfl⟩ | ⟨kk, gg, rfl, e2, e3, e4⟩
      · simp [hm13, ht2]
        exact hnone L _ _ _ hrd2 (.inl ⟨e1, rfl⟩)
      · simp [hm13, ht2]
        exact hnone L _ _ _ hrd2 (.inr ⟨kk, gg, rfl, e2, by omega, e4⟩)

end Ab
end Go.Proofs.YtfkffpcnknlbhaaDoor
