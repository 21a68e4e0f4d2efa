/-
  DERIVED. lockstepref30.Parse: what it comes to.
  Conditions: texts shorter than the rounds that are let.
-/
import Derived.Test.YtfkffpcnknlbhaaDoorR6
set_option linter.all false
set_option maxHeartbeats 4000000
namespace Go.Proofs.YtfkffpcnknlbhaaDoor
namespace Ab
set_option maxRecDepth 100000
set_option maxHeartbeats 4000000
set_option linter.all false
attribute [local simp] appendA appRow newsA rowsSz rowsOf isIntD makeSliceA elemOf rowsBuilt

theorem vsOf_eq (n : Nat) (rows : List (List AV)) : vsOf n rows = .vs rows.isEmpty (if rows = [] then 0 else n) rows := by
  unfold vsOf
  by_cases h : rows = []
  · simp [h]
  · cases rows with
    | nil => exact absurd rfl h
    | cons a b => rfl
theorem vsOf_form (n : Nat) (rows : List (List AV)) : ∃ z w, vsOf n rows = .vs z w rows ∧ (rows ≠ [] → z = false ∧ w = n) := by
  refine ⟨_, _, vsOf_eq n rows, fun h => ?_⟩
  cases rows with
  | nil => exact absurd rfl h
  | cons a b => simp
theorem shapes_ok : shapes.all (fun x => x.2.all (fun k => k == 68 || k == 78 || k == 86 || k == 87) && decide (x.2.length < 100)) = true := by decide
theorem shape_kinds {w ks : Bs} (h : shapeOf w = some ks) : kindsOk ks ∧ ks.length < 100 := by
  unfold shapeOf at h
  rw [Option.map_eq_some_iff] at h
  obtain ⟨x, h1, rfl⟩ := h
  have := List.all_eq_true.1 shapes_ok x (List.mem_of_find?_eq_some h1)
  rw [Bool.and_eq_true, decide_eq_true_eq] at this
  refine ⟨fun k hk => ?_, this.2⟩
  have h2 := List.all_eq_true.1 this.1 k hk
  simp at h2
  rcases h2 with ((h | h) | h) | h
  · exact .inl h
  · exact .inr (.inl h)
  · exact .inr (.inr (.inl h))
  · exact .inr (.inr (.inr h))

def sayRow (s : Say) : List AV := [.i .i64 s.line, .s (ba s.word), vsOf 1 (txts s.args)]
def says (l : List Say) : List (List AV) := l.map sayRow
theorem says_len (l : List Say) : (says l).length = l.length := by simp [says]
theorem says_snoc (l : List Say) (s : Say) : says l ++ [sayRow s] = says (l ++ [s]) := by simp [says]

theorem linesF_le : ∀ (n : Nat) (l : Bs), ∀ x ∈ linesF n l, x.length ≤ l.length
  | 0, l, x, hx => by simp [linesF] at hx
  | n + 1, l, x, hx => by
    unfold linesF at hx
    by_cases h : l = []
    · simp [h] at hx
    · rw [if_neg h] at hx
      rcases List.mem_cons.1 hx with rfl | hx
      · unfold hd; exact (List.takeWhile_prefix _).length_le
      · have := linesF_le n _ x hx
        have := tl_lt 10 l h
        omega
theorem linesOf_le (l : Bs) : ∀ x ∈ linesOf l, x.length ≤ l.length := linesF_le _ l
theorem linesF_len : ∀ (n : Nat) (l : Bs), (linesF n l).length ≤ l.length
  | 0, l => by simp [linesF]
  | n + 1, l => by
    unfold linesF
    by_cases h : l = []
    · simp [h]
    · rw [if_neg h]
      have := linesF_len n (tl 10 l)
      have := tl_lt 10 l h
      simp; omega
theorem linesOf_len (l : Bs) : (linesOf l).length ≤ l.length := linesF_len _ l

/-- What a parse comes to. -/
def ParseQ (l : Bs) (r : AV) (hp : Hp) (nx : Nat) : Prop := ∃ v, r = .tup [v, .i .i64 (answer l).2.1, .i .i64 (answer l).2.2] ∧ SVal 3 hp nx v (says (answer l).1)

/-- What the callees answer. -/
structure Ref5 (call : CallT) (l : Bs) : Prop where
  c7 : pR call 7 [.s (ba l)] = some (vsOf 1 (txts (linesOf l)))
  c8 : ∀ m : Bs, m.length ≤ l.length → pR call 8 [.s (ba m)] = some (.tup [.s (ba (nxW m)), .s (ba (nxR m))])
  c9a : ∀ w ks, shapeOf w = some ks → pR call 9 [.s (ba w)] = some (.tup [.s (ba (ks.map star)), .b true])
  c9b : ∀ w, shapeOf w = none → pR call 9 [.s (ba w)] = some (.tup [.s (ba []), .b false])
  c10a : ∀ (ks m : Bs) a, kindsOk ks → ks.length < 100 → m.length ≤ l.length → readArgs ks m = some a → pR call 10 [.s (ba (ks.map star)), .s (ba m)] = some (.tup [vsOf 1 (txts a), .b true])
  c10b : ∀ (ks m : Bs), kindsOk ks → ks.length < 100 → m.length ≤ l.length → readArgs ks m = none → ∃ a, pR call 10 [.s (ba (ks.map star)), .s (ba m)] = some (.tup [vsOf 1 (txts a), .b false])

theorem SVal.app0G {sz : Nat} {hp : Hp} {n nx : Nat} {x : List AV} (h : n < nx) : SVal sz (up hp n (0, .arr sz [x])) nx (.rs n 0 0 1 sz) [x] :=
  .inr ⟨n, 0, rfl, by simp [lk_set], h, by simp⟩
theorem SVal.appSG {sz : Nat} {hp : Hp} {n nx g m : Nat} {x : List AV} {L : List (List AV)} (h : n < nx) (hm : m = L.length) : SVal sz (up hp n (g + 1, .arr sz (L ++ [x]))) nx (.rs n (g + 1) 0 (m + 1) sz) (L ++ [x]) :=
  .inr ⟨n, g + 1, by simp [hm], by simp [lk_set], h, by simp⟩
theorem scriptS_skip {x : Bs} {r : List Bs} {n : Nat} {L : List Say} (h : parseL x = some none) : scriptS (x :: r) n L = scriptS r (n + 1) L := by
  simp only [scriptS, h]
theorem scriptS_bad {x : Bs} {r : List Bs} {n : Nat} {L : List Say} (h : parseL x = none) : scriptS (x :: r) n L = ([], (n : Int), 300) := by
  simp only [scriptS, h]
theorem scriptS_full {x w : Bs} {a : List Bs} {r : List Bs} {n : Nat} {L : List Say} (h : parseL x = some (some (w, a))) (hL : 300 ≤ L.length) : scriptS (x :: r) n L = ([], (n : Int), 300) := by
  simp only [scriptS, h, hL, if_true]
theorem scriptS_say {x w : Bs} {a : List Bs} {r : List Bs} {n : Nat} {L : List Say} (h : parseL x = some (some (w, a))) (hL : ¬ 300 ≤ L.length) : scriptS (x :: r) n L = scriptS r (n + 1) (L ++ [⟨n, w, a⟩]) := by
  simp only [scriptS, h, hL, if_false]

theorem run5 (call : CallT) (k : Nat) (l : Bs) (hl : l.length < 2 ^ 20) (hk : l.length < k) (H : Ref5 call l) : Ends cfg call k 5 [.s (ba l)] [] 0 (ParseQ l) := by
  refine run_wp Tryd.func5 rfl (by simp [Tryd.f5]) ?_
  obtain ⟨Q, hQ⟩ : ∃ Q : AV → Hp → Nat → Prop, Q = ParseQ l := ⟨_, rfl⟩
  have hend : ∀ S ln er v hp nx, answer l = (S, ln, er) → SVal 3 hp nx v (says S) → Q (.tup [v, .i .i64 ln, .i .i64 er]) hp nx := by
    intro S ln er v hp nx h h2
    rw [hQ]
    refine ⟨v, ?_, ?_⟩
    · rw [h]
    · rw [h]; exact h2
  rw [← hQ]
  by_cases hbig : (131072 : Int) < l.length
  · simp [hbig]
    exact hend [] 0 2 _ _ _ (by unfold answer; rw [if_pos (by omega)]) (.inl ⟨rfl, rfl⟩)
  have hans : answer l = scriptS (linesOf l) 1 [] := by unfold answer; rw [if_neg (by omega)]
  obtain ⟨z, w, hzw, hzw2⟩ := vsOf_form 1 (txts (linesOf l))
  have h7 := H.c7
  rw [hzw] at h7
  simp [hbig, h7]
  have hlen := linesOf_len l
  refine loop_wp (ι := Nat × Nat × AV × Hp × List Say) (fun i => { env := [(5, i.2.2.1), (6, .vs z w (txts (linesOf l))), (7, .i .i64 (i.1 : Nat))], loc := [], hp := i.2.2.2.1, nx := i.2.1 }) (fun i => (linesOf l).length - i.1)
    (fun i => i.1 ≤ (linesOf l).length ∧ SVal 3 i.2.2.2.1 i.2.1 i.2.2.1 (says i.2.2.2.2) ∧ i.2.2.2.2.length ≤ 300 ∧ answer l = scriptS ((linesOf l).drop i.1) (i.1 + 1) i.2.2.2.2) (0, _, .vs true 0 [], [], []) rfl ⟨Nat.zero_le _, .inl ⟨rfl, rfl⟩, Nat.zero_le _, hans⟩ (by simp only; omega) ?_
  rintro Next ⟨i, nx, v, hp, L⟩ ⟨hi0, hv, hL, hsc⟩ hnext
  simp only at hi0 hv hL hsc hnext ⊢
  by_cases hi : i < (linesOf l).length
  · obtain ⟨x, hx⟩ : ∃ x, (linesOf l)[i]? = some x := ⟨_, List.getElem?_eq_getElem hi⟩
    have hd : (linesOf l).drop i = x :: (linesOf l).drop (i + 1) := by
      have := List.drop_eq_getElem_cons hi
      rw [List.getElem?_eq_getElem hi] at hx
      injection hx with hx
      rw [hx] at this
      exact this
    obtain ⟨-, rfl⟩ := hzw2 (by intro h; have := congrArg List.length h; rw [txts_len, List.length_nil] at this; omega)
    have hxl := linesOf_le l x (List.mem_of_getElem? hx)
    have c1 : (i : Int) < (linesOf l).length := by omega
    have c2 : (0 : Int) ≤ i := by omega
    have c3 : IntKind.i64.wrap ((i : Int) + 1) = i + 1 := wrap_i64 (by omega) (by omega)
    have hxr : (txts (linesOf l))[i]? = some [.s (ba x)] := by simp [txts, hx]
    have h8 := H.c8 x hxl
    rw [hd] at hsc
    have f1 : ∀ kk, kk < nx → ∀ c, ¬ kk = nx + c := fun kk h c => by omega
    have f2 : ∀ kk, kk < nx → ∀ c, ¬ nx + c = kk := fun kk h c => by omega
    have hskip : parseL x = some none → ∀ nx' v' hp', SVal 3 hp' nx' v' (says L) → Next { env := [(5, v'), (6, .vs z 1 (txts (linesOf l))), (7, .i .i64 ((i : Int) + 1))], loc := [], hp := hp', nx := nx' } := by
      intro h nx' v' hp' h2
      exact hnext (i + 1, nx', v', hp', L) (by simp only; omega) ⟨hi, h2, hL, by rw [hsc, scriptS_skip h]⟩
    by_cases hw : nxW x = []
    · have hp0 : parseL x = some none := by simp [parseL, hw]
      rcases hv with ⟨e1, rfl⟩ | ⟨kk, gg, rfl, e2, e3, e4⟩
      · simp [txts_len, c1, c2, c3, hxr, h8, hw]
        exact hskip hp0 _ _ _ (.inl ⟨e1, rfl⟩)
      · simp [txts_len, c1, c2, c3, hxr, h8, hw]
        exact hskip hp0 _ _ _ (.inr ⟨kk, gg, rfl, e2, by omega, e4⟩)
    obtain ⟨b, t, hbt⟩ : ∃ b t, nxW x = b :: t := by cases h : nxW x with
      | nil => exact absurd h hw
      | cons b t => exact ⟨b, t, rfl⟩
    have hw0 : (nxW x)[0]? = some b := by rw [hbt]; rfl
    have hw1 : (nxW x).isEmpty = false := by rw [hbt]; rfl
    have hwh : (nxW x).head? = some b := by rw [hbt]; rfl
    by_cases h35 : b = 35
    · have hp0 : parseL x = some none := by simp [parseL, hw, hwh, h35]
      have g35 := byte_eq (c := 35) (n := 35) rfl h35
      rcases hv with ⟨e1, rfl⟩ | ⟨kk, gg, rfl, e2, e3, e4⟩
      · simp [txts_len, c1, c2, c3, hxr, h8, hw0, hw1, g35]
        exact hskip hp0 _ _ _ (.inl ⟨e1, rfl⟩)
      · simp [txts_len, c1, c2, c3, hxr, h8, hw0, hw1, g35]
        exact hskip hp0 _ _ _ (.inr ⟨kk, gg, rfl, e2, by omega, e4⟩)
    have g35 := byte_ne (c := 35) (n := 35) rfl h35
    cases hsh : shapeOf (nxW x) with
    | none =>
      have hp0 : parseL x = none := by simp [parseL, hw, hwh, h35, hsh]
      have h9 := H.c9b _ hsh
      have hz := fun hp nx => hend [] ((i : Int) + 1) 300 (.vs true 0 []) hp nx (by rw [hsc, scriptS_bad hp0]; rfl) (.inl ⟨rfl, rfl⟩)
      rcases hv with ⟨e1, rfl⟩ | ⟨kk, gg, rfl, e2, e3, e4⟩
      · simp [txts_len, c1, c2, c3, hxr, h8, hw0, hw1, g35, h9]
        exact hz _ _
      · simp [txts_len, c1, c2, c3, hxr, h8, hw0, hw1, g35, h9]
        exact hz _ _
    | some ks =>
      have h9 := H.c9a _ _ hsh
      obtain ⟨hk1, hk2⟩ := shape_kinds hsh
      have hxr8 := nxR_le x
      cases hra : readArgs ks (nxR x) with
      | none =>
        have hp0 : parseL x = none := by simp [parseL, hw, hwh, h35, hsh, hra]
        obtain ⟨a, h10⟩ := H.c10b ks (nxR x) hk1 hk2 (by omega) hra
        obtain ⟨z2, w2, hz2, -⟩ := vsOf_form 1 (txts a)
        rw [hz2] at h10
        have hz := fun hp nx => hend [] ((i : Int) + 1) 300 (.vs true 0 []) hp nx (by rw [hsc, scriptS_bad hp0]; rfl) (.inl ⟨rfl, rfl⟩)
        rcases hv with ⟨e1, rfl⟩ | ⟨kk, gg, rfl, e2, e3, e4⟩
        · simp [txts_len, c1, c2, c3, hxr, h8, hw0, hw1, g35, h9, h10]
          exact hz _ _
        · simp [txts_len, c1, c2, c3, hxr, h8, hw0, hw1, g35, h9, h10]
          exact hz _ _
      | some a =>
        have hp0 : parseL x = some (some (nxW x, a)) := by simp [parseL, hw, hwh, h35, hsh, hra]
        have h10 := H.c10a ks (nxR x) a hk1 hk2 (by omega) hra
        obtain ⟨z2, w2, hz2, -⟩ := vsOf_form 1 (txts a)
        rw [hz2] at h10
        by_cases h300 : 300 ≤ L.length
        · have hz := fun hp nx => hend [] ((i : Int) + 1) 300 (.vs true 0 []) hp nx (by rw [hsc, scriptS_full hp0 h300]; rfl) (.inl ⟨rfl, rfl⟩)
          have c4 : ((L.length : Int) == 300) = true := by rw [beq_iff_eq]; omega
          rcases hv with ⟨e1, rfl⟩ | ⟨kk, gg, rfl, e2, e3, e4⟩
          · have e1' : L = [] := by simpa [says] using e1
            subst e1'
            simp at h300
          · simp [txts_len, says_len, c1, c2, c3, c4, hxr, h8, hw0, hw1, g35, h9, h10]
            exact hz _ _
        · have c4 : ((L.length : Int) == 300) = false := by rw [beq_eq_false_iff_ne]; omega
          have hrow : sayRow ⟨(i : Int) + 1, nxW x, a⟩ = [.i .i64 ((i : Int) + 1), .s (ba (nxW x)), .vs z2 w2 (txts a)] := by
            unfold sayRow; rw [hz2]
          have hn := fun nx' v' hp' h1 => hnext (i + 1, nx', v', hp', L ++ [⟨((i + 1 : Nat) : Int), nxW x, a⟩]) (by simp only; omega) ⟨hi, h1, by simp; omega, by rw [hsc, scriptS_say hp0 h300]⟩
          simp only [← says_snoc, hrow, Int.natCast_add, Int.cast_ofNat_Int] at hn
          have d1 : (L.length + 1) * 49 ≤ 68719476736 := by omega
          rcases hv with ⟨e1, rfl⟩ | ⟨kk, gg, rfl, e2, e3, e4⟩
          · have e1' : L = [] := by simpa [says] using e1
            subst e1'
            simp [mostB, Nat.add_assoc, lk_set, txts_len, says_len, c1, c2, c3, c4, hxr, h8, hw0, hw1, g35, h9, h10]
            exact hn _ _ _ (.app0G (by omega))
          · have f1 := f1 kk e3
            have f2 := f2 kk e3
            simp [mostB, Nat.add_assoc, lk_set, txts_len, says_len, c1, c2, c3, c4, hxr, h8, hw0, hw1, g35, h9, h10, e2, f1, f2, d1]
            exact hn _ _ _ (.appSG (by omega) (says_len L).symm)
  · obtain rfl : i = (linesOf l).length := by omega
    rw [List.drop_of_length_le (Nat.le_refl _)] at hsc
    rcases hv with ⟨e1, rfl⟩ | ⟨kk, gg, rfl, e2, e3, e4⟩
    · simp [txts_len]
      exact hend L 0 0 _ _ _ hsc (.inl ⟨e1, rfl⟩)
    · simp [txts_len]
      exact hend L 0 0 _ _ _ hsc (.inr ⟨kk, gg, rfl, e2, by omega, e4⟩)

end Ab
end Go.Proofs.YtfkffpcnknlbhaaDoor
