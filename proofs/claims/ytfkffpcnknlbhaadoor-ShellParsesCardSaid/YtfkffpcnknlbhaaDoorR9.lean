/-
  DERIVED. shell.script, shell.Parse: what they come to.
  Conditions: texts shorter than the rounds that are let.
-/
import Derived.Test.YtfkffpcnknlbhaaDoorR8
set_option linter.all false
set_option maxHeartbeats 4000000
namespace Go.Proofs.YtfkffpcnknlbhaaDoor
namespace Ab
set_option maxRecDepth 100000
set_option maxHeartbeats 4000000
set_option linter.all false
attribute [local simp] appendA appRow newsA rowsSz rowsOf isIntD makeSliceA elemOf rowsBuilt

/-- What the callee answers of a line. -/
def Line12 (call : CallT) (l : Bs) : Prop := match parseL l with
  | none => ∃ w rows, pR call 12 [.s (ba l)] = some (.tup [.agg [.i .i64 0, .s (ba w), vsOf 1 (txts rows)], .b false])
  | some none => pR call 12 [.s (ba l)] = some (.tup [.agg [.i .i64 0, .s (ba []), .vs true 0 []], .b true])
  | some (some (w, a)) => pR call 12 [.s (ba l)] = some (.tup [.agg [.i .i64 0, .s (ba w), vsOf 1 (txts a)], .b true])

theorem parseL_word {l w : Bs} {a : List Bs} (h : parseL l = some (some (w, a))) : w ≠ [] := by
  unfold parseL at h
  by_cases h1 : nxW l = []
  · simp [h1] at h
  · rw [if_neg h1] at h
    by_cases h2 : (nxW l).head? = some 35
    · simp [h2] at h
    · rw [if_neg h2] at h
      cases h3 : shapeOf (nxW l) with
      | none => simp [h3] at h
      | some ks =>
        simp only [h3] at h
        cases h4 : readArgs ks (nxR l) with
        | none => simp [h4] at h
        | some a' =>
          simp only [h4, Option.some.injEq, Prod.mk.injEq] at h
          rw [← h.1]; exact h1
theorem hd_le (c : UInt8) (l : Bs) : (hd c l).length ≤ l.length := by unfold hd; exact (List.takeWhile_prefix _).length_le

theorem run6 (call : CallT) (k : Nat) (l : Bs) (hl : l.length < 2 ^ 20) (hk : l.length < k) (H : ∀ m : Bs, m.length ≤ l.length → Line12 call m) : Ends cfg call k 6 [.s (ba l)] [] 0 (ParseQ l) := by
  refine run_wp Tryd.func6 rfl (by simp [Tryd.f6]) ?_
  obtain ⟨Q, hQ⟩ : ∃ Q : AV → Hp → Nat → Prop, Q = ParseQ l := ⟨_, rfl⟩
  have hend : ∀ S ln er v hp nx, answer l = (S, ln, er) → SVal 3 hp nx v (says S) → Q (.tup [v, .i .i64 ln, .i .i64 er]) hp nx := by
    intro S ln er v hp nx h h2
    rw [hQ]
    refine ⟨v, ?_, ?_⟩
    · rw [h]
    · rw [h]; exact h2
  rw [← hQ]
  by_cases hbig : (131072 : Int) < l.length
  · simp [hbig]
    exact hend [] 0 2 _ _ _ (by unfold answer; rw [if_pos (by omega)]) (.inl ⟨rfl, rfl⟩)
  have hans : answer l = scriptS (linesOf l) 1 [] := by unfold answer; rw [if_neg (by omega)]
  simp [hbig]
  refine loop_wp (ι := Nat × Nat × AV × Hp × List Say × Bs) (fun i => { env := [(0, .s (ba i.2.2.2.2.2)), (5, i.2.2.1), (6, .i .i64 (i.1 : Nat))], loc := [], hp := i.2.2.2.1, nx := i.2.1 }) (fun i => i.2.2.2.2.2.length)
    (fun i => (1 ≤ i.1 ∧ i.1 + i.2.2.2.2.2.length ≤ l.length + 1) ∧ SVal 3 i.2.2.2.1 i.2.1 i.2.2.1 (says i.2.2.2.2.1) ∧ i.2.2.2.2.1.length ≤ 300 ∧ answer l = scriptS (linesOf i.2.2.2.2.2) i.1 i.2.2.2.2.1) (1, _, .vs true 0 [], [], [], l) rfl ⟨by simp only; omega, .inl ⟨rfl, rfl⟩, Nat.zero_le _, hans⟩ hk ?_
  rintro Next ⟨i, nx, v, hp, L, m⟩ ⟨hi0, hv, hL, hsc⟩ hnext
  simp only at hi0 hv hL hsc hnext ⊢
  by_cases hm : m = []
  · subst hm
    rcases hv with ⟨e1, rfl⟩ | ⟨kk, gg, rfl, e2, e3, e4⟩
    · simp
      exact hend L 0 0 _ _ _ hsc (.inl ⟨e1, rfl⟩)
    · simp
      exact hend L 0 0 _ _ _ hsc (.inr ⟨kk, gg, rfl, e2, by omega, e4⟩)
  have hm1 : m.isEmpty = false := by simpa using hm
  have h11 := fun st nx dst => c11 call st nx dst m 10 (by omega)
  have hlt := tl_lt 10 m hm
  have hle := hd_le 10 m
  rw [linesOf_step m hm] at hsc
  have hH := H (hd 10 m) (by omega)
  have c3 : IntKind.i64.wrap ((i : Int) + 1) = i + 1 := wrap_i64 (by omega) (by omega)
  have f1 : ∀ kk, kk < nx → ∀ c, ¬ kk = nx + c := fun kk h c => by omega
  have f2 : ∀ kk, kk < nx → ∀ c, ¬ nx + c = kk := fun kk h c => by omega
  unfold Line12 at hH
  cases hpl : parseL (hd 10 m) with
  | none =>
    simp only [hpl] at hH
    obtain ⟨w, rows, h12⟩ := hH
    obtain ⟨z2, w2, hz2, -⟩ := vsOf_form 1 (txts rows)
    rw [hz2] at h12
    have hz := fun hp nx => hend [] (i : Int) 300 (.vs true 0 []) hp nx (by rw [hsc, scriptS_bad hpl]) (.inl ⟨rfl, rfl⟩)
    rcases hv with ⟨e1, rfl⟩ | ⟨kk, gg, rfl, e2, e3, e4⟩
    · simp [hm1, h11, h12]
      exact hz _ _
    · simp [hm1, h11, h12]
      exact hz _ _
  | some o =>
    cases o with
    | none =>
      simp only [hpl] at hH
      have hn := fun nx' v' hp' h1 => hnext (i + 1, nx', v', hp', L, tl 10 m) hlt ⟨by simp only; omega, h1, hL, by rw [hsc, scriptS_skip hpl]⟩
      simp only [Int.natCast_add, Int.cast_ofNat_Int] at hn
      rcases hv with ⟨e1, rfl⟩ | ⟨kk, gg, rfl, e2, e3, e4⟩
      · simp [hm1, h11, hH, c3]
        exact hn _ _ _ (.inl ⟨e1, rfl⟩)
      · simp [hm1, h11, hH, c3]
        exact hn _ _ _ (.inr ⟨kk, gg, rfl, e2, by omega, e4⟩)
    | some wa =>
      obtain ⟨w, a⟩ := wa
      simp only [hpl] at hH
      obtain ⟨z2, w2, hz2, -⟩ := vsOf_form 1 (txts a)
      rw [hz2] at hH
      have hw := parseL_word hpl
      have hw1 : w.isEmpty = false := by simpa using hw
      by_cases h300 : 300 ≤ L.length
      · have hz := fun hp nx => hend [] (i : Int) 300 (.vs true 0 []) hp nx (by rw [hsc, scriptS_full hpl h300]) (.inl ⟨rfl, rfl⟩)
        have c4 : (300 : Int) ≤ L.length := by omega
        rcases hv with ⟨e1, rfl⟩ | ⟨kk, gg, rfl, e2, e3, e4⟩
        · have e1' : L = [] := by simpa [says] using e1
          subst e1'
          simp at h300
        · simp [hm1, h11, hH, hw1, says_len, c4]
          exact hz _ _
      · have c4 : ¬ (300 : Int) ≤ L.length := by omega
        have hrow : sayRow ⟨(i : Int), w, a⟩ = [.i .i64 (i : Int), .s (ba w), .vs z2 w2 (txts a)] := by
          unfold sayRow; rw [hz2]
        have hn := fun nx' v' hp' h1 => hnext (i + 1, nx', v', hp', L ++ [⟨(i : Int), w, a⟩], tl 10 m) hlt ⟨by simp only; omega, h1, by simp; omega, by rw [hsc, scriptS_say hpl h300]⟩
        simp only [← says_snoc, hrow, Int.natCast_add, Int.cast_ofNat_Int] at hn
        have d1 : (L.length + 1) * 49 ≤ 68719476736 := by omega
        rcases hv with ⟨e1, rfl⟩ | ⟨kk, gg, rfl, e2, e3, e4⟩
        · have e1' : L = [] := by simpa [says] using e1
          subst e1'
          simp [mostB, Nat.add_assoc, lk_set, says_len, c3, c4, hm1, h11, hH, hw1]
          exact hn _ _ _ (.app0G (by omega))
        · have f1 := f1 kk e3
          have f2 := f2 kk e3
          simp [mostB, Nat.add_assoc, lk_set, says_len, c3, c4, hm1, h11, hH, hw1, e2, f1, f2, d1]
          exact hn _ _ _ (.appSG (by omega) (says_len L).symm)

end Ab
end Go.Proofs.YtfkffpcnknlbhaaDoor
