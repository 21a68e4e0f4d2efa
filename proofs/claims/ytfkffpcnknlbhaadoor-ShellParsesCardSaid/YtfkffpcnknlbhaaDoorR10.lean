/-
  DERIVED. shell.Parse, ShellParses: what they come to; a parse, frozen.
  Conditions: texts shorter than the rounds that are let.
-/
import Derived.Test.YtfkffpcnknlbhaaDoorR9
set_option linter.all false
set_option maxHeartbeats 4000000
namespace Go.Proofs.YtfkffpcnknlbhaaDoor
namespace Ab
set_option maxRecDepth 100000
set_option maxHeartbeats 4000000
set_option linter.all false
attribute [local simp] appendA appRow newsA rowsSz rowsOf isIntD makeSliceA elemOf rowsBuilt

theorem frz_says {get : Ref → Option AO} {n : Nat} (l : List Say) : mapO (mapO (frz get (n + 1))) (says l) = some (says l) := by
  refine mapO_self fun x hx => ?_
  simp only [says, List.mem_map] at hx
  obtain ⟨y, _, rfl⟩ := hx
  unfold sayRow
  rw [vsOf_eq]
  simp
theorem frz_svalG {get : Ref → Option AO} {hp : Hp} {nx n : Nat} {v : AV} {l : List Say} (h : SVal 3 hp nx v (says l)) (hg : ∀ k g, get (.h k g) = lkg hp k g) : frz get (n + 2) v = some (vsOf 3 (says l)) := by
  rcases h with ⟨e1, rfl⟩ | ⟨k, g, rfl, e2, e3, e4⟩
  · simp [vsOf, e1]
  · simp [hg, e2, rowsOf, frz_says, vsOf, e4]
/-- A parse, frozen. -/
def parseV (l : Bs) : AV := .tup [vsOf 3 (says (answer l).1), .i .i64 (answer l).2.1, .i .i64 (answer l).2.2]
theorem frz_parse {l : Bs} {r : AV} {hp : Hp} {nx : Nat} (h : ParseQ l r hp nx) : frz (hget hp) frzDepth r = some (parseV l) := by
  obtain ⟨v, rfl, hv⟩ := h
  have := frz_svalG (get := hget hp) (n := 9) hv fun _ _ => rfl
  unfold frzDepth
  rw [frz_tup]
  simp only [mapO, this, parseV]
  rfl
theorem frz_line {l : Bs} {r : AV} {hp : Hp} {nx : Nat} (h : ParsedQ l r hp nx) : match parseL l with
  | none => ∃ w rows, frz (hget hp) frzDepth r = some (.tup [.agg [.i .i64 0, .s (ba w), vsOf 1 (txts rows)], .b false])
  | some none => frz (hget hp) frzDepth r = some (.tup [.agg [.i .i64 0, .s (ba []), .vs true 0 []], .b true])
  | some (some (w, a)) => frz (hget hp) frzDepth r = some (.tup [.agg [.i .i64 0, .s (ba w), vsOf 1 (txts a)], .b true]) := by
  unfold ParsedQ at h
  cases hp : parseL l with
  | none =>
    simp only [hp] at h ⊢
    obtain ⟨w, v, rows, rfl, hv⟩ := h
    refine ⟨w, rows, ?_⟩
    have := frz_sval (get := hget _) (n := 8) hv fun _ _ => rfl
    unfold frzDepth
    rw [frz_tup]
    simp only [mapO, frz_agg, this]
    rfl
  | some o =>
    cases o with
    | none =>
      simp only [hp] at h ⊢
      subst h
      rfl
    | some wa =>
      obtain ⟨w, a⟩ := wa
      simp only [hp] at h ⊢
      obtain ⟨v, rfl, hv⟩ := h
      have := frz_sval (get := hget _) (n := 8) hv fun _ _ => rfl
      unfold frzDepth
      rw [frz_tup]
      simp only [mapO, frz_agg, this]
      rfl
theorem frz_rest {ks l : Bs} {r : AV} {hp : Hp} {nx : Nat} (h : RestQ ks l r hp nx) : match readArgs ks l with
  | some a => frz (hget hp) frzDepth r = some (.tup [vsOf 1 (txts a), .b true])
  | none => ∃ a, frz (hget hp) frzDepth r = some (.tup [vsOf 1 (txts a), .b false]) := by
  unfold RestQ at h
  cases hp : readArgs ks l with
  | none =>
    simp only [hp] at h ⊢
    obtain ⟨v, rows, rfl, hv⟩ := h
    refine ⟨rows, ?_⟩
    have := frz_sval (get := hget _) (n := 9) hv fun _ _ => rfl
    unfold frzDepth
    rw [frz_tup]
    simp only [mapO, this]
    rfl
  | some a =>
    simp only [hp] at h ⊢
    obtain ⟨v, rfl, hv⟩ := h
    have := frz_sval (get := hget _) (n := 9) hv fun _ _ => rfl
    unfold frzDepth
    rw [frz_tup]
    simp only [mapO, this]
    rfl

theorem run4 (call : CallT) (k : Nat) (l : Bs) (h6 : pR call 6 [.s (ba l)] = some (parseV l)) : Ends cfg call k 4 [.s (ba l)] [] 0 fun r _ _ => r = parseV l := by
  refine run_wp Tryd.func4 rfl (by simp [Tryd.f4]) ?_
  unfold parseV at h6 ⊢
  rw [vsOf_eq] at h6 ⊢
  simp [h6]

theorem ans_last : answer [108, 97, 115, 116, 10] = ([⟨1, [108, 97, 115, 116], []⟩], 0, 0) := by
  have e1 : linesOf [108, 97, 115, 116, 10] = [[108, 97, 115, 116]] := by rfl
  have e2 : parseL [108, 97, 115, 116] = some (some ([108, 97, 115, 116], [])) := by rfl
  unfold answer
  rw [if_neg (by decide), e1]
  simp [scriptS, e2]

theorem readArgs_len : ∀ (ks m : Bs) (a : List Bs), readArgs ks m = some a → a.length ≤ ks.length + m.length
  | [], m, a, h => by
    unfold readArgs at h
    by_cases ht : trim m = []
    · simp [ht] at h; subst h; simp
    · simp [ht] at h
  | k :: ks, m, a, h => by
    unfold readArgs at h
    by_cases h86 : k = 86
    · by_cases ht : trim m = []
      · simp [h86, ht] at h
      · simp [h86, ht] at h; subst h; simp; omega
    · rw [if_neg h86] at h
      by_cases h87 : k = 87
      · rw [if_pos h87] at h
        injection h with h
        subst h
        have := wordsOf_len m
        simp; omega
      · rw [if_neg h87] at h
        by_cases hf : fitsW k (nxW m) = true
        · rw [if_pos hf, Option.map_eq_some_iff] at h
          obtain ⟨b, hb, rfl⟩ := h
          have := readArgs_len ks _ _ hb
          have := nxR_le m
          simp; omega
        · simp [hf] at h
theorem parseL_len {l w : Bs} {a : List Bs} (h : parseL l = some (some (w, a))) : a.length ≤ 100 + l.length := by
  unfold parseL at h
  by_cases h1 : nxW l = []
  · simp [h1] at h
  · rw [if_neg h1] at h
    by_cases h2 : (nxW l).head? = some 35
    · simp [h2] at h
    · rw [if_neg h2] at h
      cases h3 : shapeOf (nxW l) with
      | none => simp [h3] at h
      | some ks =>
        simp only [h3] at h
        cases h4 : readArgs ks (nxR l) with
        | none => simp [h4] at h
        | some a' =>
          simp only [h4, Option.some.injEq, Prod.mk.injEq] at h
          rw [← h.2]
          have := readArgs_len _ _ _ h4
          have := (shape_kinds h3).2
          have := nxR_le l
          omega
theorem script_bounds (B : Nat) : ∀ (xs : List Bs) (n : Nat) (acc : List Say), (∀ x ∈ xs, x.length ≤ B) → acc.length ≤ 300 → (∀ s ∈ acc, s.args.length ≤ 100 + B) →
    (scriptS xs n acc).1.length ≤ 300 ∧ ∀ s ∈ (scriptS xs n acc).1, s.args.length ≤ 100 + B
  | [], n, acc, _, h1, h2 => ⟨h1, h2⟩
  | x :: r, n, acc, hx, h1, h2 => by
    have hr := fun y hy => hx y (List.mem_cons_of_mem _ hy)
    cases hp : parseL x with
    | none => rw [scriptS_bad hp]; exact ⟨Nat.zero_le _, by simp⟩
    | some o =>
      cases o with
      | none => rw [scriptS_skip hp]; exact script_bounds B r _ acc hr h1 h2
      | some wa =>
        obtain ⟨w, a⟩ := wa
        by_cases h300 : 300 ≤ acc.length
        · rw [scriptS_full hp h300]; exact ⟨Nat.zero_le _, by simp⟩
        · rw [scriptS_say hp h300]
          refine script_bounds B r _ _ hr (by simp; omega) ?_
          intro s hs
          rcases List.mem_append.1 hs with hs | hs
          · exact h2 s hs
          · simp at hs
            subst hs
            have := parseL_len hp
            have := hx x List.mem_cons_self
            simp only; omega
theorem answer_bounds (l : Bs) : (answer l).1.length ≤ 300 ∧ ∀ s ∈ (answer l).1, s.args.length ≤ 131172 := by
  unfold answer
  by_cases h : 131072 < l.length
  · rw [if_pos h]; exact ⟨Nat.zero_le _, by simp⟩
  · rw [if_neg h]
    have := script_bounds l.length _ 1 [] (linesOf_le l) (Nat.zero_le _) (by simp)
    exact ⟨this.1, fun s hs => Nat.le_trans (this.2 s hs) (by omega)⟩

theorem run3 (call : CallT) (k : Nat) (l : Bs) (hk : 2 ^ 20 ≤ k) (h4 : pR call 4 [.s (ba l)] = some (parseV l)) (h5 : pR call 5 [.s (ba l)] = some (parseV l)) (h4' : pR call 4 [.s (ba [108, 97, 115, 116, 10])] = some (parseV [108, 97, 115, 116, 10])) :
    Ends cfg call k 3 [.s (ba l)] [] 0 fun r _ _ => r = .b true := by
  refine run_wp Tryd.func3 rfl (by simp [Tryd.f3]) ?_
  have hb : ba [108, 97, 115, 116, 10] = ⟨#[108, 97, 115, 116, 10]⟩ := rfl
  have hlast : parseV [108, 97, 115, 116, 10] = .tup [.vs false 3 [[.i .i64 1, .s (ba [108, 97, 115, 116]), .vs true 0 []]], .i .i64 0, .i .i64 0] := by
    unfold parseV
    rw [ans_last]
    rfl
  rw [hb, hlast] at h4'
  unfold parseV at h4 h5
  obtain ⟨A, hA⟩ : ∃ A, answer l = A := ⟨_, rfl⟩
  rw [hA] at h4 h5
  have hAl := answer_bounds l
  rw [hA] at hAl
  obtain ⟨S, ln, er⟩ := A
  simp only at h4 h5 hAl
  obtain ⟨z, w, hz, hzw⟩ := vsOf_form 3 (says S)
  rw [hz] at h4 h5
  simp [h4, h5]
  refine loop_wp (ι := Nat × Nat) (fun i => { env := [(3, .vs z w (says S)), (6, .vs z w (says S)), (9, .i .i64 (i.1 : Nat))], loc := [], hp := [], nx := i.2 }) (fun i => S.length - i.1)
    (fun i => i.1 ≤ S.length) (0, 35) rfl (Nat.zero_le _) (by simp only; omega) ?_
  rintro Next ⟨i, nx⟩ hi0 hnext
  simp only at hi0 hnext ⊢
  by_cases hi : i < S.length
  · obtain ⟨⟨sl, sw, sa⟩, hx⟩ : ∃ x, S[i]? = some x := ⟨_, List.getElem?_eq_getElem hi⟩
    have hal := hAl.2 _ (List.mem_of_getElem? hx)
    simp only at hal
    obtain ⟨-, rfl⟩ := hzw (by intro h; have := congrArg List.length h; rw [says_len, List.length_nil] at this; omega)
    obtain ⟨z2, w2, hz2, hzw2⟩ := vsOf_form 1 (txts sa)
    have hrow : (says S)[i]? = some [.i .i64 sl, .s (ba sw), .vs z2 w2 (txts sa)] := by simp [says, hx, sayRow, hz2]
    have c1 : (i : Int) < S.length := by omega
    have c2 : (0 : Int) ≤ i := by omega
    have c3 : IntKind.i64.wrap ((i : Int) + 1) = i + 1 := wrap_i64 (by omega) (by omega)
    simp [says_len, c1, c2, hrow]
    refine ⟨⟨by kernel_rfl, by kernel_rfl⟩, ?_⟩
    refine loop_wp (ι := Nat × Nat) (fun j => { env := [(3, .vs z 3 (says S)), (6, .vs z 3 (says S)), (9, .i .i64 (i : Nat)), (10, .i .i64 (j.1 : Nat))], loc := [], hp := [], nx := j.2 }) (fun j => sa.length - j.1)
      (fun j => j.1 ≤ sa.length) (0, _) rfl (Nat.zero_le _) (by simp only; omega) ?_
    rintro Next2 ⟨j, nx2⟩ hj0 hnext2
    simp only at hj0 hnext2 ⊢
    by_cases hj : j < sa.length
    · obtain ⟨x, hxj⟩ : ∃ x, sa[j]? = some x := ⟨_, List.getElem?_eq_getElem hj⟩
      obtain ⟨-, rfl⟩ := hzw2 (by intro h; have := congrArg List.length h; rw [txts_len, List.length_nil] at this; omega)
      have hrowj : (txts sa)[j]? = some [.s (ba x)] := by simp [txts, hxj]
      have d1 : (j : Int) < sa.length := by omega
      have d2 : (0 : Int) ≤ j := by omega
      have d3 : IntKind.i64.wrap ((j : Int) + 1) = j + 1 := wrap_i64 (by omega) (by omega)
      simp [says_len, txts_len, c1, c2, hrow, d1, d2, d3, hrowj]
      refine ⟨⟨by kernel_rfl, by kernel_rfl⟩, ?_⟩
      exact hnext2 (j + 1, _) (by simp only; omega) hj
    · obtain rfl : j = sa.length := by omega
      simp [says_len, txts_len, c1, c2, c3, hrow]
      exact hnext (i + 1, _) (by simp only; omega) hi
  · obtain rfl : i = S.length := by omega
    simp [says_len, h4']

end Ab
end Go.Proofs.YtfkffpcnknlbhaaDoor
