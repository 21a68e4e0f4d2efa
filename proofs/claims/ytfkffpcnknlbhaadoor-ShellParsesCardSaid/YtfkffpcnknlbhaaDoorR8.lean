/-
  DERIVED. shell.parsed: what it comes to.
  Conditions: texts shorter than the rounds that are let.
-/
import Derived.Test.YtfkffpcnknlbhaaDoorR7
set_option linter.all false
set_option maxHeartbeats 4000000
namespace Go.Proofs.YtfkffpcnknlbhaaDoor
namespace Ab
set_option maxRecDepth 100000
set_option maxHeartbeats 4000000
set_option linter.all false
attribute [local simp] appendA appRow newsA rowsSz rowsOf isIntD makeSliceA elemOf rowsBuilt

theorem wordsF_len : ∀ (n : Nat) (l : Bs), (wordsF n l).length ≤ l.length
  | 0, l => by simp [wordsF]
  | n + 1, l => by
    unfold wordsF
    by_cases h : nxW l = []
    · simp [h]
    · rw [if_neg h]
      have := wordsF_len n (nxR l)
      have := nxR_lt l h
      simp; omega
theorem wordsOf_len (l : Bs) : (wordsOf l).length ≤ l.length := wordsF_len _ l

/-- What a line comes to. -/
def ParsedQ (l : Bs) (r : AV) (hp : Hp) (nx : Nat) : Prop := match parseL l with
  | none => ∃ w v rows, r = .tup [.agg [.i .i64 0, .s (ba w), v], .b false] ∧ SVal 1 hp nx v (txts rows)
  | some none => r = .tup [.agg [.i .i64 0, .s (ba []), .vs true 0 []], .b true]
  | some (some (w, a)) => ∃ v, r = .tup [.agg [.i .i64 0, .s (ba w), v], .b true] ∧ SVal 1 hp nx v (txts a)

theorem SVal.app0L {hp : Hp} {n nx : Nat} {W : List Bs} (h : n < nx) (hW : W ≠ []) : SVal 1 (up hp n (0, .arr 1 (txts W))) nx (.rs n 0 0 W.length 1) (txts ([] ++ W)) :=
  .inr ⟨n, 0, by simp [txts], by simp [lk_set], h, by simpa [txts] using hW⟩
theorem SVal.appSL {hp : Hp} {n nx g : Nat} {W L : List Bs} (h : n < nx) (hW : W ≠ []) : SVal 1 (up hp n (g + 1, .arr 1 (txts L ++ txts W))) nx (.rs n (g + 1) 0 (L.length + W.length) 1) (txts (L ++ W)) :=
  .inr ⟨n, g + 1, by simp [txts], by simp [lk_set, txts], h, by simp [txts, hW]⟩

/-- What the callees answer. -/
structure Ref12 (call : CallT) (l : Bs) : Prop where
  c16 : ∀ m : Bs, m.length ≤ l.length → pR call 16 [.s (ba m)] = some (.tup [.s (ba (nxW m)), .s (ba (nxR m).tail)])
  c17a : ∀ w ks, shapeOf w = some ks → pR call 17 [.s (ba w)] = some (.tup [.s (ba ks), .b true])
  c17b : ∀ w, shapeOf w = none → pR call 17 [.s (ba w)] = some (.tup [.s (ba []), .b false])
  c19 : ∀ m : Bs, m.length ≤ l.length → pR call 19 [.s (ba m)] = some (.vs false 1 (txts (wordsOf m)))
  c20 : ∀ (c : UInt8) (m : Bs), m.length ≤ l.length → pR call 20 [.i .u8 (c.toNat : Nat), .s (ba m)] = some (.b (fitsW c m))

theorem run12 (call : CallT) (k : Nat) (l : Bs) (hl : l.length < 2 ^ 20) (hk : 100 < k) (H : Ref12 call l) : Ends cfg call k 12 [.s (ba l)] [] 0 (ParsedQ l) := by
  refine run_wp Tryd.func12 rfl (by simp [Tryd.f12]) ?_
  obtain ⟨Q, hQ⟩ : ∃ Q : AV → Hp → Nat → Prop, Q = ParsedQ l := ⟨_, rfl⟩
  have hsay : ∀ w a v hp nx, parseL l = some (some (w, a)) → SVal 1 hp nx v (txts a) → Q (.tup [.agg [.i .i64 0, .s (ba w), v], .b true]) hp nx := by
    intro w a v hp nx h h2
    rw [hQ]
    unfold ParsedQ
    rw [h]
    exact ⟨v, rfl, h2⟩
  have hbad : ∀ w rows v hp nx, parseL l = none → SVal 1 hp nx v (txts rows) → Q (.tup [.agg [.i .i64 0, .s (ba w), v], .b false]) hp nx := by
    intro w rows v hp nx h h2
    rw [hQ]
    unfold ParsedQ
    rw [h]
    exact ⟨w, v, rows, rfl, h2⟩
  have hcom : ∀ hp nx, parseL l = some none → Q (.tup [.agg [.i .i64 0, .s (ba []), .vs true 0 []], .b true]) hp nx := by
    intro hp nx h
    rw [hQ]
    unfold ParsedQ
    rw [h]
  rw [← hQ]
  have h16 := H.c16 l (Nat.le_refl _)
  by_cases hw : nxW l = []
  · have hp0 : parseL l = some none := by simp [parseL, hw]
    simp [h16, hw]
    exact hcom _ _ hp0
  obtain ⟨b, t, hbt⟩ : ∃ b t, nxW l = b :: t := by cases h : nxW l with
    | nil => exact absurd h hw
    | cons b t => exact ⟨b, t, rfl⟩
  have hw0 : (nxW l)[0]? = some b := by rw [hbt]; rfl
  have hw1 : (nxW l).isEmpty = false := by rw [hbt]; rfl
  have hwh : (nxW l).head? = some b := by rw [hbt]; rfl
  by_cases h35 : b = 35
  · have hp0 : parseL l = some none := by simp [parseL, hw, hwh, h35]
    have g35 := byte_eq (c := 35) (n := 35) rfl h35
    simp [h16, hw0, hw1, g35]
    exact hcom _ _ hp0
  have g35 := byte_ne (c := 35) (n := 35) rfl h35
  cases hsh : shapeOf (nxW l) with
  | none =>
    have hp0 : parseL l = none := by simp [parseL, hw, hwh, h35, hsh]
    have h17 := H.c17b _ hsh
    simp [h16, hw0, hw1, g35, h17]
    exact hbad [] [] _ _ _ hp0 (.inl ⟨rfl, rfl⟩)
  | some ks =>
    have h17 := H.c17a _ _ hsh
    obtain ⟨hk1, hk2⟩ := shape_kinds hsh
    have hpl : parseL l = (readArgs ks (nxR l)).elim none fun a => some (some (nxW l, a)) := by
      simp only [parseL, hw, hwh, h35, hsh, Option.some.injEq, if_false]
      cases readArgs ks (nxR l) <;> rfl
    simp [h16, hw0, hw1, g35, h17]
    refine loop_wp (ι := Nat × Nat × AV × Hp × List Bs × Bs) (fun i => { env := [(2, .lp 2 0 0), (5, .s (ba i.2.2.2.2.2)), (6, .s (ba ks)), (8, .lp 8 27 0), (35, .i .i64 (ks.length : Nat)), (36, .i .i64 (i.1 : Nat))], loc := [(2, 0, .cells [.i .i64 0, .s (ba []), .vs true 0 []]), (8, 27, .cells [.i .i64 0, .s (ba (nxW l)), i.2.2.1])], hp := i.2.2.2.1, nx := i.2.1 }) (fun i => ks.length - i.1)
      (fun i => i.1 ≤ ks.length ∧ SVal 1 i.2.2.2.1 i.2.1 i.2.2.1 (txts i.2.2.2.2.1) ∧ i.2.2.2.2.1.length ≤ i.1 ∧ i.2.2.2.2.2.length ≤ l.length ∧ readArgs ks (nxR l) = (readArgs (ks.drop i.1) i.2.2.2.2.2).map (i.2.2.2.2.1 ++ ·)) (0, _, .vs true 0 [], [], [], (nxR l).tail) rfl ⟨Nat.zero_le _, .inl ⟨rfl, rfl⟩, Nat.zero_le _, ?_, ?_⟩ (by simp only; omega) ?_
    · have := nxR_le l
      simp; omega
    · have := readArgs_tl ks l
      rw [List.drop_one] at this
      simp [this]
    rintro Next ⟨i, nx, v, hp, L, m⟩ ⟨hi0, hv, hL, hm, hrd⟩ hnext
    simp only at hi0 hv hL hm hrd hnext ⊢
    have h18 := fun st nx dst => c18 call st nx dst m [32] (by omega) (by decide) (by decide)
    have hb : ba [32] = ⟨#[32]⟩ := rfl
    have htr : Lib.trimS m [32] = trim m := rfl
    rw [hb, htr] at h18
    have h16m := H.c16 m hm
    have h19m := H.c19 m hm
    by_cases hi : i < ks.length
    · obtain ⟨c, hx, hd⟩ := at_get hi
      have c1 : (i : Int) < ks.length := by omega
      have c2 : (0 : Int) ≤ i := by omega
      have c3 : IntKind.i64.wrap ((i : Int) + 1) = i + 1 := wrap_i64 (by omega) (by omega)
      have hnx := nxR_le m
      rw [hd] at hrd
      have f1 : ∀ kk, kk < nx → ∀ c, ¬ kk = nx + c := fun kk h c => by omega
      have f2 : ∀ kk, kk < nx → ∀ c, ¬ nx + c = kk := fun kk h c => by omega
      have d1 : (L.length + 1) * 17 ≤ 68719476736 := by omega
      by_cases h86 : c = 86
      · subst h86
        have hq : ∀ v hp nx, SVal 1 hp nx v (txts (L ++ [trim m])) → Q (.tup [.agg [.i .i64 0, .s (ba (nxW l)), v], .b (!(trim m).isEmpty)]) hp nx := by
          intro v hp nx hv
          by_cases ht : trim m = []
          · rw [show (!(trim m).isEmpty) = false by simp [ht]]
            exact hbad _ (L ++ [trim m]) _ _ _ (by rw [hpl, hrd]; simp [readArgs, ht]) hv
          · rw [show (!(trim m).isEmpty) = true by simp [ht]]
            exact hsay _ (L ++ [trim m]) _ _ _ (by rw [hpl, hrd]; simp [readArgs, ht]) hv
        rcases hv with ⟨e1, rfl⟩ | ⟨kk, gg, rfl, e2, e3, e4⟩
        · have e1' : L = [] := by simpa [txts] using e1
          subst e1'
          simp [mostB, Nat.add_assoc, lk_set, c1, c2, hx, h18]
          exact hq _ _ _ (.app0 (by omega))
        · have f1 := f1 kk e3
          have f2 := f2 kk e3
          simp [mostB, Nat.add_assoc, lk_set, c1, c2, hx, h18, e2, f1, f2, txts_len, d1]
          exact hq _ _ _ (.appS (by omega))
      have g86 := byte_ne (c := 86) (n := 86) rfl h86
      by_cases h87 : c = 87
      · subst h87
        have hq : ∀ v hp nx, SVal 1 hp nx v (txts (L ++ wordsOf m)) → Q (.tup [.agg [.i .i64 0, .s (ba (nxW l)), v], .b true]) hp nx := by
          intro v hp nx hv
          exact hsay _ _ _ _ _ (by rw [hpl, hrd]; simp [readArgs]) hv
        have hwl := wordsOf_len m
        obtain ⟨W, hW⟩ : ∃ W, wordsOf m = W := ⟨_, rfl⟩
        rw [hW] at hq h19m hwl
        rcases hv with ⟨e1, rfl⟩ | ⟨kk, gg, rfl, e2, e3, e4⟩
        · have e1' : L = [] := by simpa [txts] using e1
          subst e1'
          by_cases hW0 : W = []
          · subst hW0
            have t0 : txts [] = [] := rfl
            simp [mostB, Nat.add_assoc, lk_set, c1, c2, hx, h19m, g86, t0]
            refine ⟨⟨by kernel_rfl, by kernel_rfl⟩, ?_⟩
            exact hq _ _ _ (.inl ⟨rfl, rfl⟩)
          · have hW1 : ¬ txts W = [] := by simpa [txts] using hW0
            have d2 : W.length * 17 ≤ 68719476736 := by omega
            simp [mostB, Nat.add_assoc, lk_set, c1, c2, hx, h19m, g86, txts_len, hW0, d2]
            refine ⟨⟨by kernel_rfl, ?_⟩, ?_⟩
            · simp [dynOk, pairsOk, befOf, Region.binds, Eff.apart, Eff.clear, Eff.wkeys, Ref.key, AV.refs0, f1, f2, List.range, List.range.loop]
            exact hq _ _ _ (.app0L (by omega) hW0)
        · have f1 := f1 kk e3
          have f2 := f2 kk e3
          by_cases hW0 : W = []
          · subst hW0
            have t0 : txts [] = [] := rfl
            have d2 : L.length * 17 ≤ 68719476736 := by omega
            simp [mostB, Nat.add_assoc, lk_set, c1, c2, hx, h19m, g86, e2, f1, f2, txts_len, d2, t0]
            refine ⟨⟨by kernel_rfl, by kernel_rfl⟩, ?_⟩
            exact hq _ _ _ (by rw [List.append_nil]; exact .inr ⟨kk, gg, by simp [txts], e2, by omega, e4⟩)
          · have hW1 : ¬ txts W = [] := by simpa [txts] using hW0
            have d2 : (L.length + W.length) * 17 ≤ 68719476736 := by omega
            simp [mostB, Nat.add_assoc, lk_set, c1, c2, hx, h19m, g86, e2, f1, f2, txts_len, hW0, d2]
            refine ⟨⟨by kernel_rfl, ?_⟩, ?_⟩
            · simp [dynOk, pairsOk, befOf, Region.binds, Eff.apart, Eff.clear, Eff.wkeys, Ref.key, AV.refs0, f1, f2, List.range, List.range.loop]
            exact hq _ _ _ (.appSL (by omega) hW0)
      · have hrd2 : readArgs ks (nxR l) = if fitsW c (nxW m) = true then (readArgs (ks.drop (i + 1)) (nxR m)).map ((L ++ [nxW m]) ++ ·) else none := by
          rw [hrd]
          simp only [readArgs, h86, h87, if_false]
          by_cases hf : fitsW c (nxW m) = true
          · simp only [hf, if_true, Option.map_map]
            congr 1
            funext x
            simp
          · simp [hf]
        have g87 := byte_ne (c := 87) (n := 87) rfl h87
        have h20 := H.c20 c (nxW m) (by have := nxW_le m; omega)
        by_cases hf : fitsW c (nxW m) = true
        · rw [if_pos hf] at hrd2
          rw [hf] at h20
          have hn := fun nx' v' hp' h1 => hnext (i + 1, nx', v', hp', L ++ [nxW m], (nxR m).tail) (by simp only; omega) ⟨hi, h1, by simp; omega, by simp; omega, by rw [hrd2]; have := readArgs_tl (ks.drop (i + 1)) m; rw [List.drop_one] at this; simp only [this]⟩
          simp only [Int.natCast_add, Int.cast_ofNat_Int] at hn
          rcases hv with ⟨e1, rfl⟩ | ⟨kk, gg, rfl, e2, e3, e4⟩
          · have e1' : L = [] := by simpa [txts] using e1
            subst e1'
            simp [mostB, Nat.add_assoc, lk_set, c1, c2, c3, hx, h16m, h20, g86, g87]
            exact hn _ _ _ (.app0 (by omega))
          · have f1 := f1 kk e3
            have f2 := f2 kk e3
            simp [mostB, Nat.add_assoc, lk_set, c1, c2, c3, hx, h16m, h20, g86, g87, e2, f1, f2, txts_len, d1]
            exact hn _ _ _ (.appS (by omega))
        · rw [if_neg hf] at hrd2
          rw [Bool.eq_false_iff.2 hf] at h20
          have hz := fun hp nx => hbad [] [] (.vs true 0 []) hp nx (by rw [hpl, hrd2]; rfl) (.inl ⟨rfl, rfl⟩)
          rcases hv with ⟨e1, rfl⟩ | ⟨kk, gg, rfl, e2, e3, e4⟩
          · simp [mostB, Nat.add_assoc, lk_set, c1, c2, c3, hx, h16m, h20, g86, g87]
            exact hz _ _
          · simp [mostB, Nat.add_assoc, lk_set, c1, c2, c3, hx, h16m, h20, g86, g87]
            exact hz _ _
    · obtain rfl : i = ks.length := by omega
      rw [List.drop_of_length_le (Nat.le_refl _)] at hrd
      have hq : ∀ v hp nx, SVal 1 hp nx v (txts L) → Q (.tup [.agg [.i .i64 0, .s (ba (nxW l)), v], .b (trim m).isEmpty]) hp nx := by
        intro v hp nx hv
        by_cases ht : trim m = []
        · rw [show (trim m).isEmpty = true by simp [ht]]
          exact hsay _ L _ _ _ (by rw [hpl, hrd]; simp [readArgs, ht]) hv
        · rw [show (trim m).isEmpty = false by simpa using ht]
          exact hbad _ L _ _ _ (by rw [hpl, hrd]; simp [readArgs, ht]) hv
      rcases hv with ⟨e1, rfl⟩ | ⟨kk, gg, rfl, e2, e3, e4⟩
      · simp [Nat.add_assoc, h18]
        refine ⟨⟨by kernel_rfl, by kernel_rfl⟩, ?_⟩
        exact hq _ _ _ (.inl ⟨e1, rfl⟩)
      · simp [Nat.add_assoc, h18]
        refine ⟨⟨by kernel_rfl, by kernel_rfl⟩, ?_⟩
        exact hq _ _ _ (.inr ⟨kk, gg, rfl, e2, by omega, e4⟩)

end Ab
end Go.Proofs.YtfkffpcnknlbhaaDoor
