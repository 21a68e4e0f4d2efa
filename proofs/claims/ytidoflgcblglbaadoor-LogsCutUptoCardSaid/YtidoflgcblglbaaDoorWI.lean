/-
  DERIVED. locksteplaw02.Spoil, locksteplaw26.spoil: lists written over.
  Conditions: enough rounds, enough depth; bounded lengths.
-/
import Derived.Test.YtidoflgcblglbaaDoorW32
import Derived.Test.YtidoflgcblglbaaDoorW7
set_option linter.all false
set_option maxHeartbeats 4000000
namespace Go.Proofs.YtidoflgcblglbaaDoor
namespace Ab
open Go.Lib
set_option maxRecDepth 100000
set_option maxHeartbeats 4000000
set_option linter.all false

def qObj : AV → Option Nat
  | .rs b _ _ _ _ => some b
  | _ => none
theorem argO_q {x y z : AV} {p : AV} {s : AV} {q : AV} : argO [x, y, z, p, s, q] = qObj q := by cases q <;> rfl
theorem vals_set {l : List Val} {i : Nat} (t n : Int) (s : ByteArray) : (valRows l).set i [.i .i64 t, .i .i64 n, .s s] = valRows (l.set i ⟨t, n, s⟩) := by simp [valRows, List.map_set, Val.row]
theorem ints_set {l : List Int} {i : Nat} (t : Int) : (ints l).set i [.i .i64 t] = ints (l.set i t) := by simp [ints, List.map_set]
section
attribute [local simp] wp_regW opsW_nil opsW_cons opsK_eq regK_no regK_draw oW_n oW_h oW_r oW_pn convA appendA appRow newsA rowsSz rowsOf isIntD makeSliceA elemOf rowsBuilt eqA eq1 lenA

theorem c_Spoil {nn : Bool} {K n lo N : Nat} (hK : big K) (hn : 1 ≤ n) {H : Hp} {q : AV} {l : List Val} (hl : LstV nn H lo N q l) (hb : l.length ≤ 2 ^ 20) (hkeys : ∀ j x, lk H j = some x → j < N) :
    Sp K n 51 [q] H N fun r H' N' => r = .tup [] ∧ N ≤ N' ∧ (∀ j x, lk H' j = some x → j < N') ∧ ∀ j, j < N → qObj q ≠ some j → lk H' j = lk H j := by
  refine sp_cps fun Q hQ => ?_
  obtain ⟨n, rfl⟩ : ∃ m, n = m + 1 := ⟨n - 1, by omega⟩
  refine sp_of rfl (run_wp Tryd.func51 rfl (by simp [Tryd.f51]) ?_)
  rcases hl with ⟨b, g, rfl, h1, h2, h3⟩ | ⟨hnn, rfl, rfl⟩
  · simp
    refine loop_wp (ι := Nat × List Val × Hp × Nat) (fun i => { env := [(0, .rs b g 0 l.length 3), (2, .i .i64 (i.1 : Nat))], loc := [], hp := i.2.2.1, nx := i.2.2.2 }) (fun i => l.length - i.1)
      (fun i => i.1 ≤ l.length ∧ N ≤ i.2.2.2 ∧ (∀ j x, lk i.2.2.1 j = some x → j < i.2.2.2) ∧ i.2.1.length = l.length ∧ lk i.2.2.1 b = some (g, .arr 3 (valRows i.2.1)) ∧ ∀ j, j ≠ b → lk i.2.2.1 j = lk H j) (0, l, H, _) rfl ⟨Nat.zero_le _, by simp only; omega, fun j x h => by have := hkeys j x h; simp only; omega, rfl, h1, fun _ _ => rfl⟩ (by simp; unfold big at hK; omega) ?_
    rintro Next ⟨i, m, H1, N1⟩ ⟨hi, hN1, hk1, hml, hlk, hlow⟩ hnext
    simp only at hi hN1 hk1 hml hlk hlow hnext
    by_cases hlt : i < l.length
    · have c1 : (i : Int) < l.length := by omega
      have c3 : IntKind.i64.wrap ((i : Int) + 1) = ((i + 1 : Nat) : Int) := by rw [wrap_i64 (by omega) (by omega)]; omega
      obtain ⟨v, hv⟩ : ∃ v, m[i]? = some v := ⟨_, List.getElem?_eq_getElem (by omega)⟩
      have hr2 := val_row hv
      have him : i < m.length := by omega
      simp [c1, hlt, hml, hlk, hr2, Val.row, c3, vals_set]
      exact hnext (i + 1, m.set i ⟨77, 0, { data := #[115, 112, 111, 105, 108, 116] }⟩, up H1 b (g, .arr 3 (valRows (m.set i ⟨77, 0, { data := #[115, 112, 111, 105, 108, 116] }⟩))), _) (by simp only; omega) ⟨by simp only; omega, by simp only; omega, fun j x h => by
        simp only [lk_set] at h
        split at h
        · simp only; omega
        · have := hk1 j x h; simp only; omega, by simp [hml], by simp only [lk_set, if_true], fun j hj => by simp only [lk_set]; rw [if_neg hj]; exact hlow j hj⟩
    · have hil : i = l.length := by omega
      subst hil
      have hsh : shown (valRows m) 0 l.length = valRows m := shown_all (by simp [hml])
      have hbb : (l.length + 1) * 33 ≤ 68719476736 := by omega
      have hnk : ∀ c, ¬ b = N1 + c := fun c => by omega
      simp [mostB, lk_set, hlk, hml, hsh, hbb, hnk, Nat.add_assoc]
      refine hQ _ _ _ ⟨rfl, by omega, fun j x h => ?_, fun j hj hq => ?_⟩
      · simp only [lk_set] at h
        split at h
        · omega
        · split at h
          · omega
          · have := hk1 j x h; omega
      · have hjb : j ≠ b := fun e => hq (by rw [e]; rfl)
        rw [lk_set, if_neg hjb, lk_set, if_neg (by omega)]
        exact hlow j hjb
  · simp
    refine loop_wp (ι := Nat) (fun i => { env := [(0, .vs true 0 []), (2, .i .i64 0)], loc := [], hp := H, nx := i }) (fun i => 0) (fun i => N ≤ i) (N + 1) rfl (by show N ≤ N + 1; omega) (by show 0 < K; unfold big at hK; omega) ?_
    rintro Next N1 hN1 hnext
    simp [mostB, lk_set]
    refine hQ _ _ _ ⟨rfl, by omega, fun j x h => ?_, fun j hj hq => ?_⟩
    · simp only [lk_set] at h
      split at h
      · omega
      · split at h
        · omega
        · have := hkeys j x h; omega
    · rw [lk_set, if_neg (by omega), lk_set, if_neg (by omega)]

theorem c_spoil {nn : Bool} {K n lo N : Nat} (hK : big K) (hn : 2 ≤ n) {H : Hp} {x y z : Int} {s : ByteArray} {p q : AV} {l : List Int} {m : List Val} (hp : LstP nn H lo N p l) (hq : LstV nn H lo N q m) (hl : l.length ≤ 2 ^ 20) (hm : m.length ≤ 2 ^ 20) (hkeys : ∀ j x, lk H j = some x → j < N) :
    Sp K n 26 [.agg [.i .u64 x, .i .u64 y, .i .u64 z, p, .s s, q]] H N fun r H' N' => r = .tup [] ∧ N ≤ N' ∧ (∀ j x, lk H' j = some x → j < N') ∧ (∀ j, j < N → qObj p ≠ some j → qObj q ≠ some j → lk H' j = lk H j) ∧ ∀ a, qObj p = some a → ∃ g l', l'.length = l.length ∧ p = .rs a g 0 l.length 1 ∧ lk H a = some (g, .arr 1 (ints l)) ∧ lk H' a = some (g, .arr 1 (ints l')) := by
  refine sp_cps fun Q hQ => ?_
  obtain ⟨n, rfl⟩ : ∃ m, n = m + 1 := ⟨n - 1, by omega⟩
  have hpm : p.okc = true := by
    rcases hp with ⟨a, g, rfl, _⟩ | ⟨_, _, rfl⟩ <;> rfl
  have hqm : q.okc = true := by
    rcases hq with ⟨a, g, rfl, _⟩ | ⟨_, _, rfl⟩ <;> rfl
  have hqmv : q.mv = true := by
    rcases hq with ⟨a, g, rfl, _⟩ | ⟨_, _, rfl⟩ <;> rfl
  refine sp_of rfl (run_wp Tryd.func26 rfl (by simp [Tryd.f26]) ?_)
  have tail : ∀ (H1 : Hp) (N1 : Nat) (l1 : List Int), N ≤ N1 → l1.length = l.length → LstP nn H1 lo N p l1 → LstV nn H1 lo N q m → (∀ j x, lk H1 j = some x → j < N1) → (∀ j, j < N → qObj p ≠ some j → lk H1 j = lk H j) → (∀ a, qObj p = some a → ∃ g, p = .rs a g 0 l.length 1 ∧ lk H a = some (g, .arr 1 (ints l)) ∧ lk H1 a = some (g, .arr 1 (ints l1))) →
      Ab.cW (callA cfg K n 51 [q] H1 N1) fun r H' N' => r = .tup [] ∧ Q (.tup []) H' N' := by
    intro H1 N1 l1 h1 h2 h3 h4 h5 h6 h7
    refine (c_Spoil hK (by omega) (h4.keep (fun _ _ _ _ => rfl) h1) hm h5).cW ?_
    rintro r H' N' ⟨w1, w2, w3, w4⟩
    refine ⟨w1, hQ _ _ _ ⟨rfl, by omega, w3, fun j hj e1 e2 => by rw [w4 j (by omega) e2, h6 j hj e1], fun a ha => ?_⟩⟩
    obtain ⟨g, e1, e2, e3⟩ := h7 a ha
    refine ⟨g, l1, h2, e1, e2, ?_⟩
    rw [w4 a ?_ ?_]
    · exact e3
    · have := hkeys _ _ e2; omega
    · intro e
      rcases hq with ⟨b, gb, rfl, b2, _⟩ | ⟨_, _, rfl⟩
      · injection e with e
        subst e
        rw [e2] at b2
        injection b2 with b2
        injection b2 with _ b2
        injection b2 with b2
        cases b2
      · cases e
  rcases hp with ⟨a, g, rfl, h1, h2, h3⟩ | ⟨hnn, rfl, rfl⟩
  · simp [hqm]
    refine loop_wp (ι := Nat × List Int × Hp × Nat) (fun i => { env := [(1, .lp 1 N 0), (2, .i .i64 (i.1 : Nat))], loc := [(1, (N, .cells [.i .u64 x, .i .u64 y, .i .u64 z, .rs a g 0 l.length 1, .s s, q]))], hp := i.2.2.1, nx := i.2.2.2 }) (fun i => l.length - i.1)
      (fun i => i.1 ≤ l.length ∧ N ≤ i.2.2.2 ∧ (∀ j x, lk i.2.2.1 j = some x → j < i.2.2.2) ∧ i.2.1.length = l.length ∧ lk i.2.2.1 a = some (g, .arr 1 (ints i.2.1)) ∧ ∀ j, j ≠ a → lk i.2.2.1 j = lk H j) (0, l, H, _) rfl ⟨Nat.zero_le _, by simp only; omega, fun j x h => by have := hkeys j x h; simp only; omega, rfl, h1, fun _ _ => rfl⟩ (by simp; unfold big at hK; omega) ?_
    rintro Next ⟨i, l1, H1, N1⟩ ⟨hi, hN1, hk1, hml, hlk, hlow⟩ hnext
    simp only at hi hN1 hk1 hml hlk hlow hnext
    by_cases hlt : i < l.length
    · have c1 : (i : Int) < l.length := by omega
      have c3 : IntKind.i64.wrap ((i : Int) + 1) = ((i + 1 : Nat) : Int) := by rw [wrap_i64 (by omega) (by omega)]; omega
      obtain ⟨v, hv⟩ : ∃ v, l1[i]? = some v := ⟨_, List.getElem?_eq_getElem (by omega)⟩
      have hr2 := int_row hv
      have him : i < l1.length := by omega
      simp [c1, hlt, hml, hlk, hr2, c3, ints_set]
      exact hnext (i + 1, l1.set i 77, up H1 a (g, .arr 1 (ints (l1.set i 77))), _) (by simp only; omega) ⟨by simp only; omega, by simp only; omega, fun j x h => by
        simp only [lk_set] at h
        split at h
        · simp only; omega
        · have := hk1 j x h; simp only; omega, by simp [hml], by simp only [lk_set, if_true], fun j hj => by simp only [lk_set]; rw [if_neg hj]; exact hlow j hj⟩
    · have hil : i = l.length := by omega
      subst hil
      simp [hqmv]
      have hq1 : LstV nn H1 lo N q m := hq.keep (fun j w1 w2 ⟨g', rows', w3⟩ => hlow j (lk_ne w3 h1 (by omega))) (Nat.le_refl _)
      obtain ⟨r, H', N', e, rfl, hqq⟩ := tail H1 (N1 + 5 + 3) l1 (by omega) hml (.inl ⟨a, g, by rw [hml], hlk, h2, h3⟩) hq1 (fun j x h => by have := hk1 j x h; omega) (fun j hj hne => hlow j fun e => hne (by rw [e]; rfl)) fun a' ha => by
        injection ha with ha
        subst ha
        exact ⟨g, rfl, h1, hlk⟩
      refine ⟨_, _, _, e, ?_⟩
      simp
      exact hqq
  · simp [hqm]
    refine loop_wp (ι := Nat) (fun i => { env := [(1, .lp 1 N 0), (2, .i .i64 0)], loc := [(1, (N, .cells [.i .u64 x, .i .u64 y, .i .u64 z, .vs true 0 [], .s s, q]))], hp := H, nx := i }) (fun i => 0) (fun i => N ≤ i) (N + 1 + 1) rfl (by show N ≤ N + 2; omega) (by show 0 < K; unfold big at hK; omega) ?_
    rintro Next N1 hN1 hnext
    simp [hqmv]
    obtain ⟨r, H', N', e, rfl, hqq⟩ := tail H (N1 + 5 + 3) [] (by omega) rfl (.inr ⟨hnn, rfl, rfl⟩) hq (fun j x h => by have := hkeys j x h; omega) (fun _ _ _ => rfl) fun a' ha => (by cases ha)
    refine ⟨_, _, _, e, ?_⟩
    simp
    exact hqq
end

end Ab
end Go.Proofs.YtidoflgcblglbaaDoor

/-
  DERIVED. locksteplaw26.told: records that are those that must be; they are written over.
  Conditions: enough rounds, enough depth; bounded lengths.
-/
namespace Go.Proofs.YtidoflgcblglbaaDoor
namespace Ab
open Go.Lib
set_option maxRecDepth 100000
set_option maxHeartbeats 4000000
set_option linter.all false

theorem mapO_two {f : AV → Option AV} {x y x' y' : AV} (h1 : f x = some x') (h2 : f y = some y') : mapO f [x, y] = some [x', y'] := by simp [mapO, h1, h2]
theorem LstP.frz {get : Ref → Option AO} {H : Hp} (hg : ∀ k g, get (.h k g) = lkg H k g) {d lo N : Nat} {v : AV} {l : List Int} (h : LstP false H lo N v l) : Ab.frz get (d + 2) v = some (.vs false 1 (ints l)) := by
  rcases h with ⟨a, g, rfl, h2, _⟩ | ⟨h, _⟩
  · have := frz_list hg (d := d + 1) h2 (frz_ints l)
    rw [ints_len] at this
    exact this
  · cases h
theorem LstV.frz {get : Ref → Option AO} {H : Hp} (hg : ∀ k g, get (.h k g) = lkg H k g) {d lo N : Nat} {v : AV} {l : List Val} (h : LstV false H lo N v l) : Ab.frz get (d + 2) v = some (.vs false 3 (valRows l)) := by
  rcases h with ⟨a, g, rfl, h2, _⟩ | ⟨h, _⟩
  · have := frz_list hg (d := d + 1) h2 (frz_vals l)
    rw [valRows_len] at this
    exact this
  · cases h
theorem RowG.frz {get : Ref → Option AO} {H : Hp} (hg : ∀ k g, get (.h k g) = lkg H k g) {d lo N : Nat} {c : List AV} {r : Rec} (h : RowG false H lo N c r) : Ab.frz get (d + 3) (.agg c) = some (.agg (recCells false false r)) := by
  obtain ⟨p, q, rfl, h2, h3⟩ := h
  have e1 := h2.frz hg (d := d)
  have e2 := h3.frz hg (d := d)
  rw [frz_agg]
  simp only [mapO, frz_i, frz_s, e1, e2, Option.map_some, recCells]
theorem recC_frz {get : Ref → Option AO} {d : Nat} (zp za : Bool) (r : Rec) : Ab.frz get (d + 3) (.agg (recCells zp za r)) = some (.agg (recCells zp za r)) := by
  rw [frz_agg]
  rfl

/-- What told's second argument is. -/
def RecsB (H : Hp) (v : AV) (B : List Rec) : Prop := (B = [] ∧ v = .vs true 0 []) ∨ RecsV v B ∨ ∃ kn g rows, v = .rs kn g 0 B.length 6 ∧ lk H kn = some (g, .arr 6 rows) ∧ rows.length = B.length ∧ ∀ (j : Nat) (c : List AV) (r : Rec), rows[j]? = some c → B[j]? = some r → RecC c r
/-- A row that may be written over. -/
def RowS (H : Hp) (lo N : Nat) (c : List AV) : Prop := ∃ (x y z : Int) (s : ByteArray) (p q : AV) (l : List Int) (m : List Val), c = [.i .u64 x, .i .u64 y, .i .u64 z, p, .s s, q] ∧ LstP false H lo N p l ∧ LstV false H lo N q m ∧ l.length ≤ 2 ^ 20 ∧ m.length ≤ 2 ^ 20
section
attribute [local simp] wp_regW opsW_nil opsW_cons opsK_eq regK_no regK_draw oW_n oW_h oW_r oW_pn convA appendA appRow newsA rowsSz rowsOf isIntD makeSliceA elemOf rowsBuilt eqA eq1
theorem c_told0 {K n N : Nat} (hK : big K) (hn : 1 ≤ n) {H : Hp} {va vb : AV} (ha : slLen va = some 0) (hb : slLen vb = some 0) (ma : va.mv = true) (mb : vb.mv = true) :
    Sp K n 14 [va, vb] H N fun r H' N' => r = .b true ∧ N ≤ N' ∧ H' = H := by
  refine sp_cps fun Q hQ => ?_
  obtain ⟨n, rfl⟩ : ∃ m, n = m + 1 := ⟨n - 1, by omega⟩
  refine sp_of rfl (run_wp Tryd.func14 rfl (by simp [Tryd.f14]) ?_)
  simp [ma, mb, lenA_sl, ha, hb]
  refine loop_wp (ι := Nat) (fun i => { env := [(0, va), (1, vb), (5, .i .i64 0)], loc := [], hp := H, nx := i }) (fun i => 0) (fun i => N ≤ i) (N + 1 + 5 + 1) rfl (by show N ≤ N + 7; omega) (by show 0 < K; unfold big at hK; omega) ?_
  rintro Next N1 hN1 hnext
  simp [ma, mb, lenA_sl, ha, hb]
  refine loop_wp (ι := Nat) (fun i => { env := [(0, va), (6, .i .i64 0)], loc := [], hp := H, nx := i }) (fun i => 0) (fun i => N ≤ i) (N1 + 4 + 1) rfl (by show N ≤ N1 + 5; omega) (by show 0 < K; unfold big at hK; omega) ?_
  rintro Next N2 hN2 hnext
  simp [ma, mb, lenA_sl, ha, hb]
  exact hQ _ _ _ ⟨rfl, by omega, rfl⟩
end
section
attribute [local simp] wp_regW opsW_nil opsW_cons opsK_eq regK_no regK_draw oW_n oW_h oW_r oW_pn convA appendA appRow newsA rowsSz rowsOf isIntD makeSliceA elemOf rowsBuilt eqA eq1 lenA

/-- The loop that writes over. -/
theorem told_tail {K n lo N0 : Nat} (hK : big K) (hn : 2 ≤ n) {kn g L : Nat} {Q : Ex × St → Prop} (hL : L ≤ 2 ^ 25) {H0 : Hp} {rows : List (List AV)} (hlk0 : lk H0 kn = some (g, .arr 6 rows)) (hlo : lo ≤ kn) (hloN : lo ≤ N0) (hrl : rows.length = L) (hrs : ∀ (j : Nat) (c : List AV), rows[j]? = some c → RowS H0 lo N0 c) (hap : ApartR rows) (hkeys0 : ∀ j x, lk H0 j = some x → j < N0)
    (hQ : ∀ H' N', N0 ≤ N' → (∀ j x, lk H' j = some x → j < N') → (∀ j, j < lo → lk H' j = lk H0 j) → Q (.exit 2, { env := [(0, .rs kn g 0 L 6), (6, .i .i64 (L : Nat)), (31, .b false)], loc := [], hp := H', nx := N' })) :
    wp (loopK cfg (callA cfg K n) K 14 (loopOf Tryd.f14 1) { env := [(0, .rs kn g 0 L 6), (6, .i .i64 0)], loc := [], hp := H0, nx := N0 }) Q := by
  refine loop_wp (ι := Nat × List (List AV) × Hp × Nat) (fun i => { env := [(0, .rs kn g 0 L 6), (6, .i .i64 (i.1 : Nat))], loc := [], hp := i.2.2.1, nx := i.2.2.2 }) (fun i => L - i.1)
    (fun i => i.1 ≤ L ∧ N0 ≤ i.2.2.2 ∧ (∀ j x, lk i.2.2.1 j = some x → j < i.2.2.2) ∧ lk i.2.2.1 kn = some (g, .arr 6 i.2.1) ∧ i.2.1.length = L ∧ (∀ j, i.1 ≤ j → i.2.1[j]? = rows[j]?) ∧ (∀ (j : Nat) (c : List AV), i.1 ≤ j → rows[j]? = some c → RowS i.2.2.1 lo i.2.2.2 c) ∧ ∀ j, j < lo → lk i.2.2.1 j = lk H0 j) (0, rows, H0, N0) rfl ⟨Nat.zero_le _, Nat.le_refl _, hkeys0, hlk0, hrl, fun _ _ => rfl, fun j c _ hc => hrs j c hc, fun _ _ => rfl⟩ (by simp; unfold big at hK; omega) ?_
  rintro Next ⟨i, rw1, H, N⟩ ⟨hi, hN, hkeys, hlk, hl1, hsame, hS, hlow⟩ hnext
  simp only at hi hN hkeys hlk hl1 hsame hS hlow hnext
  by_cases hlt : i < L
  · obtain ⟨c, hc⟩ : ∃ c, rows[i]? = some c := ⟨_, List.getElem?_eq_getElem (by omega)⟩
    have hc1 : rw1[i]? = some c := by rw [hsame i (Nat.le_refl _)]; exact hc
    obtain ⟨x, y, z, s, p, q, l, m, rfl, hp, hq, hl, hm⟩ := hS i c (Nat.le_refl _) hc
    have c1 : (i : Int) < L := by omega
    have c3 : IntKind.i64.wrap ((i : Int) + 1) = ((i + 1 : Nat) : Int) := by rw [wrap_i64 (by omega) (by omega)]; omega
    simp [loopOf, loopsIn, Tryd.f14, c1, hlk, hl1, hlt, hc1, get_of hc1]
    have hkN := hkeys _ _ hlk
    refine (c_spoil (nn := false) (lo := lo) (N := N + 4 + 5) hK hn (hp.keep (fun _ _ _ _ => rfl) (by omega)) (hq.keep (fun _ _ _ _ => rfl) (by omega)) hl hm (fun j x h => by have := hkeys j x h; omega)).cW ?_
    rintro r H1 N1 ⟨rfl, h1, h2, h3, h4⟩
    -- which objects these are
    have hpo : ∀ a, qObj p = some a → lo ≤ a ∧ ∃ g' rows', lk H a = some (g', .arr 1 rows') := fun a ha => by
      rcases hp with ⟨a', g', rfl, e1, e2, _⟩ | ⟨h, _⟩
      · injection ha with ha; subst ha; exact ⟨e2, g', _, e1⟩
      · cases h
    have hqo : ∀ a, qObj q = some a → lo ≤ a ∧ ∃ g' rows', lk H a = some (g', .arr 3 rows') := fun a ha => by
      rcases hq with ⟨a', g', rfl, e1, e2, _⟩ | ⟨h, _⟩
      · injection ha with ha; subst ha; exact ⟨e2, g', _, e1⟩
      · cases h
    have hkn1 : lk H1 kn = some (g, .arr 6 rw1) := by
      rw [h3 kn (by omega) ?_ ?_]
      · exact hlk
      · intro e
        obtain ⟨_, g', rows', e1⟩ := hpo kn e
        exact lk_ne e1 hlk (by omega) rfl
      · intro e
        obtain ⟨_, g', rows', e1⟩ := hqo kn e
        exact lk_ne e1 hlk (by omega) rfl
    simp [hlk, hkn1, hl1, hlt, hc1, get_of hc1, c3]
    refine hnext (i + 1, rw1.set i [.i .u64 77, .i .u64 y, .i .u64 z, p, .s s, q], up H1 kn (g, .arr 6 (rw1.set i [.i .u64 77, .i .u64 y, .i .u64 z, p, .s s, q])), _) (by simp only; omega) ⟨by simp only; omega, by simp only; omega, fun j x h => ?_, by simp only [lk_set, if_true], by simp [hl1], fun j hj => ?_, fun j c hj hc2 => ?_, fun j hj => ?_⟩
    · simp only [lk_set] at h
      split at h
      · simp only; omega
      · have := h2 j x h; simp only; omega
    · simp only at hj ⊢
      rw [List.getElem?_set_ne (by omega)]
      exact hsame j (by omega)
    · simp only at hj ⊢
      obtain ⟨x2, y2, z2, s2, p2, q2, l2, m2, rfl, hp2, hq2, hl2, hm2⟩ := hS j c (by omega) hc2
      have hdist : ∀ b, qObj q = some b → qObj q2 ≠ some b := fun b hb e => by
        have h9 := List.pairwise_iff_getElem.1 hap i j (by omega) (by have := (List.getElem?_eq_some_iff.1 hc2).1; omega) (by omega)
        rw [get_of hc, get_of hc2] at h9
        exact h9 b (by rw [argO_q]; exact hb) (by rw [argO_q]; exact e)
      obtain ⟨a2, ga2, rfl, e1, e2, e3⟩ := hp2.resolve_right fun h => by cases h.1
      obtain ⟨b2, gb2, rfl, f1, f2, f3⟩ := hq2.resolve_right fun h => by cases h.1
      have hb2 : lk H1 b2 = some (gb2, .arr 3 (valRows m2)) := by
        rw [h3 b2 (by omega) ?_ fun e => hdist b2 e rfl]
        · exact f1
        · intro e
          obtain ⟨_, g', rows', w1⟩ := hpo b2 e
          exact lk_ne w1 f1 (by omega) rfl
      have hbk := lk_ne hb2 hkn1 (by omega)
      have hak := lk_ne e1 hlk (by omega)
      by_cases ha : qObj p = some a2
      · obtain ⟨g', l', w1, w2, w3, w4⟩ := h4 a2 ha
        rw [w3] at e1
        simp only [Option.some.injEq, Prod.mk.injEq, AO.arr.injEq, true_and] at e1
        have hll : l'.length = l2.length := by
          have := congrArg List.length e1.2
          simp at this
          omega
        refine ⟨x2, y2, z2, s2, _, _, l', m2, rfl, .inl ⟨a2, ga2, by rw [hll], ?_, e2, by omega⟩, .inl ⟨b2, gb2, rfl, ?_, f2, by omega⟩, by omega, hm2⟩
        · rw [lk_set, if_neg hak, w4, e1.1]
        · rw [lk_set, if_neg hbk]; exact hb2
      · refine ⟨x2, y2, z2, s2, _, _, l2, m2, rfl, .inl ⟨a2, ga2, rfl, ?_, e2, by omega⟩, .inl ⟨b2, gb2, rfl, ?_, f2, by omega⟩, hl2, hm2⟩
        · rw [lk_set, if_neg hak, h3 a2 (by omega) ha ?_]
          · exact e1
          · intro e
            obtain ⟨_, g', rows', w1⟩ := hqo a2 e
            exact lk_ne w1 e1 (by omega) rfl
        · rw [lk_set, if_neg hbk]; exact hb2
    · simp only
      rw [lk_set, if_neg (by omega), h3 j (by omega) ?_ ?_]
      · exact hlow j hj
      · intro e
        have := (hpo j e).1
        omega
      · intro e
        have := (hqo j e).1
        omega
  · have hil : i = L := by omega
    subst hil
    simp [loopOf, loopsIn, Tryd.f14]
    exact hQ H _ (by omega) (fun j x h => by have := hkeys j x h; omega) hlow
theorem c_told1 {K n lo N : Nat} (hK : big K) (hn : 3 ≤ n) {H : Hp} {va vb : AV} {A B : List Rec} (ha : ∃ kn g rows, va = .rs kn g 0 A.length 6 ∧ lk H kn = some (g, .arr 6 rows) ∧ rows.length = A.length ∧ (∀ (j : Nat) (c : List AV) (r : Rec), rows[j]? = some c → A[j]? = some r → RowG false H lo N c r) ∧ ApartR rows ∧ lo ≤ kn ∧ kn < N) (hb : RecsV vb B ∨ ∃ kn g rows, vb = .rs kn g 0 B.length 6 ∧ lk H kn = some (g, .arr 6 rows) ∧ rows.length = B.length ∧ ∀ (j : Nat) (c : List AV) (r : Rec), rows[j]? = some c → B[j]? = some r → RecC c r) (hlen : A.length = B.length) (hL : A.length ≤ 2 ^ 25) (hRB : ∀ a ∈ A, RecB a) (hs : ∀ (i : Nat) (a b : Rec), A[i]? = some a → B[i]? = some b → sameRec a b) (hlo : lo ≤ N) (hkeys : ∀ j x, lk H j = some x → j < N) :
    Sp K n 14 [va, vb] H N fun r H' N' => r = .b true ∧ N ≤ N' ∧ (∀ j x, lk H' j = some x → j < N') ∧ ∀ j, j < lo → lk H' j = lk H j := by
  refine sp_cps fun Q hQ => ?_
  obtain ⟨n, rfl⟩ : ∃ m, n = m + 1 := ⟨n - 1, by omega⟩
  refine sp_of rfl (run_wp Tryd.func14 rfl (by simp [Tryd.f14]) ?_)
  have hsame := fun zp za a b (h : RecB a) => p_rSame (K := K) (n := n) hK (by omega) false false zp za a b h
  obtain ⟨kn, g, rows, rfl, h2, h3, h4, h5, h6, h7⟩ := ha
  have fin : ∀ N1, N ≤ N1 → wp (loopK cfg (callA cfg K n) K 14 (loopOf Tryd.f14 1) { env := [(0, .rs kn g 0 B.length 6), (6, .i .i64 0)], loc := [], hp := H, nx := N1 }) fun x => ∃ H' N', N1 ≤ N' ∧ (∀ j x, lk H' j = some x → j < N') ∧ (∀ j, j < lo → lk H' j = lk H j) ∧ x = (.exit 2, { env := [(0, .rs kn g 0 B.length 6), (6, .i .i64 (B.length : Nat)), (31, .b false)], loc := [], hp := H', nx := N' }) := fun N1 hN1 => by
    refine told_tail hK (by omega) (by omega) h2 h6 (by omega) (by omega) (fun j c hc => ?_) h5 (fun j x h => by have := hkeys j x h; omega) fun H' N' w1 w2 w3 => ⟨H', N', w1, w2, w3, rfl⟩
    obtain ⟨a, hA⟩ : ∃ a, A[j]? = some a := ⟨_, List.getElem?_eq_getElem (by have := (List.getElem?_eq_some_iff.1 hc).1; omega)⟩
    obtain ⟨p, q, rfl, e1, e2⟩ := h4 j c a hc hA
    have hrb := hRB a (List.mem_of_getElem? hA)
    exact ⟨_, _, _, _, p, q, a.parts, a.args, rfl, e1.keep (fun _ _ _ _ => rfl) hN1, e2.keep (fun _ _ _ _ => rfl) hN1, hrb.parts, hrb.args⟩
  rcases hb with ⟨z, wrows, rfl, b1, b2, b3⟩ | ⟨kb, gb, wrows, rfl, b1, b2, b3⟩
  · simp [hlen, b1]
    refine loop_wp (ι := Nat × Nat) (fun i => { env := [(0, .rs kn g 0 B.length 6), (1, .vs z 6 wrows), (5, .i .i64 (i.1 : Nat))], loc := [], hp := H, nx := i.2 }) (fun i => B.length - i.1) (fun i => i.1 ≤ B.length ∧ N ≤ i.2) (0, _) rfl ⟨Nat.zero_le _, by simp only; omega⟩ (by simp; unfold big at hK; omega) ?_
    rintro Next ⟨i, N1⟩ ⟨hi, hN1⟩ hnext
    simp only at hi hN1 hnext
    by_cases hlt : i < B.length
    · obtain ⟨b, hbi⟩ : ∃ b, B[i]? = some b := ⟨_, List.getElem?_eq_getElem hlt⟩
      obtain ⟨a, hai⟩ : ∃ a, A[i]? = some a := ⟨_, List.getElem?_eq_getElem (by omega)⟩
      obtain ⟨cb, hcb⟩ : ∃ c, wrows[i]? = some c := ⟨_, List.getElem?_eq_getElem (by omega)⟩
      obtain ⟨ca, hca⟩ : ∃ c, rows[i]? = some c := ⟨_, List.getElem?_eq_getElem (by omega)⟩
      obtain ⟨zp, za, rfl, _, _⟩ := b3 i cb b hcb hbi
      have hra := h4 i ca a hca hai
      have hfa := fun (get : Ref → Option AO) (hg : ∀ k g, get (.h k g) = lkg H k g) => hra.frz hg (d := 9)
      obtain ⟨p, q, rfl, _, _⟩ := hra
      have hsm := hsame zp za a b (hRB a (List.mem_of_getElem? hai))
      rw [sameB_yes (hs i a b hai hbi)] at hsm
      have c1 : (i : Int) < B.length := by omega
      have c3 : IntKind.i64.wrap ((i : Int) + 1) = ((i + 1 : Nat) : Int) := by rw [wrap_i64 (by omega) (by omega)]; omega
      simp [c1, h2, h3, hlen, hlt, hca, get_of hca, hcb, get_of hcb, recCells, b1]
      refine pn_use (mapO_two (hfa _ fun _ _ => rfl) (recC_frz (d := 9) zp za b)) hsm rfl fun rd => ?_
      simp [c3]
      refine ⟨⟨by kernel_rfl, dyn_quiet (by simp [quietE])⟩, ?_⟩
      exact hnext (i + 1, _) (by simp only; omega) ⟨by simp only; omega, by simp only; omega⟩
    · have hil : i = B.length := by omega
      subst hil
      simp
      refine wp_mono (fin _ (by omega)) ?_
      rintro _ ⟨H', N', w1, w2, w3, rfl⟩
      simp
      exact hQ _ _ _ ⟨rfl, by omega, fun j x h => by have := w2 j x h; omega, w3⟩
  · simp [hlen]
    refine loop_wp (ι := Nat × Nat) (fun i => { env := [(0, .rs kn g 0 B.length 6), (1, .rs kb gb 0 B.length 6), (5, .i .i64 (i.1 : Nat))], loc := [], hp := H, nx := i.2 }) (fun i => B.length - i.1) (fun i => i.1 ≤ B.length ∧ N ≤ i.2) (0, _) rfl ⟨Nat.zero_le _, by simp only; omega⟩ (by simp; unfold big at hK; omega) ?_
    rintro Next ⟨i, N1⟩ ⟨hi, hN1⟩ hnext
    simp only at hi hN1 hnext
    by_cases hlt : i < B.length
    · obtain ⟨b, hbi⟩ : ∃ b, B[i]? = some b := ⟨_, List.getElem?_eq_getElem hlt⟩
      obtain ⟨a, hai⟩ : ∃ a, A[i]? = some a := ⟨_, List.getElem?_eq_getElem (by omega)⟩
      obtain ⟨cb, hcb⟩ : ∃ c, wrows[i]? = some c := ⟨_, List.getElem?_eq_getElem (by omega)⟩
      obtain ⟨ca, hca⟩ : ∃ c, rows[i]? = some c := ⟨_, List.getElem?_eq_getElem (by omega)⟩
      obtain ⟨zp, za, rfl, _, _⟩ := b3 i cb b hcb hbi
      have hra := h4 i ca a hca hai
      have hfa := fun (get : Ref → Option AO) (hg : ∀ k g, get (.h k g) = lkg H k g) => hra.frz hg (d := 9)
      obtain ⟨p, q, rfl, _, _⟩ := hra
      have hsm := hsame zp za a b (hRB a (List.mem_of_getElem? hai))
      rw [sameB_yes (hs i a b hai hbi)] at hsm
      have c1 : (i : Int) < B.length := by omega
      have c3 : IntKind.i64.wrap ((i : Int) + 1) = ((i + 1 : Nat) : Int) := by rw [wrap_i64 (by omega) (by omega)]; omega
      simp [c1, h2, h3, hlen, hlt, hca, get_of hca, hcb, get_of hcb, recCells, b1, b2]
      refine pn_use (mapO_two (hfa _ fun _ _ => rfl) (recC_frz (d := 9) zp za b)) hsm rfl fun rd => ?_
      simp [c3]
      refine ⟨⟨by kernel_rfl, dyn_quiet (by simp [quietE])⟩, ?_⟩
      exact hnext (i + 1, _) (by simp only; omega) ⟨by simp only; omega, by simp only; omega⟩
    · have hil : i = B.length := by omega
      subst hil
      simp
      refine wp_mono (fin _ (by omega)) ?_
      rintro _ ⟨H', N', w1, w2, w3, rfl⟩
      simp
      exact hQ _ _ _ ⟨rfl, by omega, fun j x h => by have := w2 j x h; omega, w3⟩
theorem RowsG.len0 {nn : Bool} {H : Hp} {lo N : Nat} {v : AV} (h : RowsG nn H lo N v []) : slLen v = some 0 ∧ v.mv = true := by
  rcases h with ⟨_, rfl⟩ | ⟨_, _, _, rfl, _⟩ <;> exact ⟨rfl, rfl⟩
theorem RecsB.len0 {H : Hp} {v : AV} (h : RecsB H v []) : slLen v = some 0 ∧ v.mv = true := by
  rcases h with ⟨_, rfl⟩ | ⟨z, rows, rfl, h1, _⟩ | ⟨_, _, _, rfl, _⟩
  · exact ⟨rfl, rfl⟩
  · have : rows = [] := List.eq_nil_of_length_eq_zero h1
    subst this
    exact ⟨rfl, rfl⟩
  · exact ⟨rfl, rfl⟩
theorem c_told {K n lo N : Nat} (hK : big K) (hn : 3 ≤ n) {H : Hp} {va vb : AV} {A B : List Rec} (ha : RowsG false H lo N va A) (hb : RecsB H vb B) (hlen : A.length = B.length) (hL : A.length ≤ 2 ^ 25) (hRB : ∀ a ∈ A, RecB a) (hs : ∀ (i : Nat) (a b : Rec), A[i]? = some a → B[i]? = some b → sameRec a b) (hlo : lo ≤ N) (hkeys : ∀ j x, lk H j = some x → j < N) :
    Sp K n 14 [va, vb] H N fun r H' N' => r = .b true ∧ N ≤ N' ∧ (∀ j x, lk H' j = some x → j < N') ∧ ∀ j, j < lo → lk H' j = lk H j := by
  by_cases h0 : A = []
  · subst h0
    obtain rfl : B = [] := List.eq_nil_of_length_eq_zero hlen.symm
    refine (c_told0 hK (by omega) ha.len0.1 hb.len0.1 ha.len0.2 hb.len0.2).mono ?_
    rintro r H' N' ⟨h1, h2, rfl⟩
    exact ⟨h1, h2, fun j x h => by have := hkeys j x h; omega, fun _ _ => rfl⟩
  · have h1 : B ≠ [] := fun e => h0 (List.eq_nil_of_length_eq_zero (by rw [hlen, e]; rfl))
    exact c_told1 hK hn (ha.resolve_left fun h => h0 h.1) (hb.resolve_left fun h => h1 h.1) hlen hL hRB hs hlo hkeys
end

end Ab
end Go.Proofs.YtidoflgcblglbaaDoor
