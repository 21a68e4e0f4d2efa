/-
  DERIVED. A file's records read by the program.
  Conditions: enough rounds, enough depth; bounded lengths.
-/
import Derived.Test.YtmbbnoipoifhhaaGreatDoorVB
import Derived.Test.YtmbbnoipoifhhaaGreatDoorV3
set_option linter.all false
set_option maxHeartbeats 4000000
namespace Go.Proofs.YtmbbnoipoifhhaaGreatDoor
namespace Ab
set_option maxRecDepth 100000
set_option maxHeartbeats 8000000
set_option linter.all false
attribute [local simp] wp_regW opsW_nil opsW_cons opsK_eq regK_no regK_draw oW_n oW_h oW_r oW_pn convA appendA appRow newsA rowsSz rowsOf isIntD makeSliceA elemOf rowsBuilt eqA eq1
attribute [-simp] fCall

theorem f_use {call : CallT} {st : St} {nx nx' : Nat} {dst : Option Nat} {g : FuncId} {args args' : List AV} {r : AV} {hp : Hp} {Q : Eff → Nat → Prop} (hf : mapO (frz st.get frzDepth) args = some args') (hc : call g args' [] nx = some (r, hp, nx'))
    (hn : (nov r && hp.all fun x => novO x.2.2) = true) (hq : Q ⟨dst, r, hp.reverse.map (fun x => (.h x.1 x.2.1, some x.2.2)), none, none⟩ nx') : oW (fCall call st nx dst g args) Q := by
  unfold fCall
  simp only [hf, hc, hn, if_true]
  rw [oW_some]
  exact hq

theorem RecsAt.push {hp hp' : Hp} {T T' : Nat → Prop} {rv rv' v : AV} {pre : List Bs} {b : Bs} (h : RecsAt hp T rv pre) (hT : ∀ j, T j → T' j) (hf : ∀ j x, T j → lk hp j = some x → aoK x.2 ≤ 1 → lk hp' j = lk hp j) (hv : SX 1 hp' T' v (byteRows b))
    (hr : (rv = .vs true 0 [] ∧ ∃ a, rv' = .rs a 0 0 1 1 ∧ lk hp' a = some (0, .arr 1 [[v]]) ∧ T' a) ∨ ∃ (a g : Nat) (rows : List (List AV)), rv = .rs a g 0 pre.length 1 ∧ lk hp a = some (g, .arr 1 rows) ∧ rv' = .rs a (g + 1) 0 (pre.length + 1) 1 ∧ lk hp' a = some (g + 1, .arr 1 (rows ++ [[v]]))) : RecsAt hp' T' rv' (pre ++ [b]) := by
  rcases hr with ⟨h1, a, h2, h3, h4⟩ | ⟨a, g, rows, h1, h2, h3, h4⟩
  · rcases h with ⟨e1, e2⟩ | ⟨a', g', vs, e0, e1, _⟩
    · subst e1
      refine .inr ⟨a, 0, [v], by simp, by simpa using h2, by simpa [recRow] using h3, h4, by simp, fun i w b' hw hb => ?_⟩
      cases i with
      | zero =>
        simp at hw hb
        subst hw hb
        exact hv
      | succ i => simp at hw
    · rw [h1] at e1; cases e1
  · rcases h with ⟨e1, e2⟩ | ⟨a', g', vs, e0, e1, e2, e3, e4, e5⟩
    · rw [h1] at e2; cases e2
    · rw [h1] at e1
      injection e1 with e11 e12
      subst e11 e12
      rw [h2] at e2
      simp only [Option.some.injEq, Prod.mk.injEq, AO.arr.injEq, true_and] at e2
      subst e2
      refine .inr ⟨a, g + 1, vs ++ [v], by simp, by simpa using h3, by simpa [recRow] using h4, hT _ e3, by simp [e4], fun i w b' hw hb => ?_⟩
      by_cases hi : i < vs.length
      · rw [List.getElem?_append_left hi] at hw
        rw [List.getElem?_append_left (by omega)] at hb
        rcases e5 i w b' hw hb with e6 | ⟨k, g2, e6, e7, e8⟩
        · exact .inl e6
        · exact .inr ⟨k, g2, e6, (hf k _ e8 e7 (by rcases aoK_bytes b' with e | e <;> simp [e])).trans e7, hT k e8⟩
      · have h5 := (List.getElem?_eq_some_iff.1 hw).1
        simp at h5
        obtain rfl : i = vs.length := by omega
        rw [List.getElem?_append_right (Nat.le_refl _), Nat.sub_self] at hw
        rw [List.getElem?_append_right (by omega), e4, Nat.sub_self] at hb
        simp at hw hb
        subst hw hb
        exact hv

theorem RecsAt.sl {hp : Hp} {T : Nat → Prop} {rv : AV} {recs : List Bs} (h : RecsAt hp T rv recs) : slLen rv = some recs.length ∧ rv.mv = true ∧ rv.okc = true := by
  rcases h with ⟨rfl, rfl⟩ | ⟨a, g, vs, _, rfl, _⟩ <;> exact ⟨rfl, rfl, rfl⟩
theorem RecsAt.same {hp hp' : Hp} {T : Nat → Prop} {rv : AV} {recs : List Bs} (h : RecsAt hp T rv recs) (hf : ∀ j, T j → lk hp' j = lk hp j) : rv.refs0.all (sameAt (hp, hp')) = true := by
  rcases h with ⟨rfl, rfl⟩ | ⟨a, g, vs, _, rfl, _, h3, _⟩
  · rfl
  · simp [AV.refs0, sameAt, hf a h3]
theorem recsN_ge : ∀ r : List Bs, 12 * r.length ≤ recsN r
  | [] => Nat.le_refl _
  | b :: r => by
    have := recsN_ge r
    rw [recsN, List.length_cons]
    omega
theorem be_mod (n : Nat) : be 8 (n % 18446744073709551616) = be 8 n := by
  have h : ∀ k, k < 8 → n % 18446744073709551616 / 256 ^ k % 256 = n / 256 ^ k % 256 := by
    intro k hk
    have : (18446744073709551616 : Nat) = 256 ^ k * (256 * 256 ^ (7 - k)) := by
      rw [show 256 * 256 ^ (7 - k) = 256 ^ (8 - k) by rw [show 8 - k = (7 - k) + 1 by omega, Nat.pow_succ, Nat.mul_comm], ← Nat.pow_add, show k + (8 - k) = 8 by omega]
    rw [this, Nat.mod_mul_right_div_self, Nat.mod_mul_right_mod]
  simp only [be, h 0 (by omega), h 1 (by omega), h 2 (by omega), h 3 (by omega), h 4 (by omega), h 5 (by omega), h 6 (by omega), h 7 (by omega)]
theorem sum_mod (n : Nat) (b : Bs) : sumB (n % 18446744073709551616) b = sumB n b := by rw [sumB, sumB, be_mod]

/-- A file read, made on the heap. -/
def ReadQ (H : Hp) (N : Nat) (x : Sg × Bool) (r : AV) (H' : Hp) (N' : Nat) : Prop := N ≤ N' ∧ (∀ j, j < N → lk H' j = lk H j) ∧ ∃ kg rv, r = .tup [.ptr kg 0 0, .b x.2] ∧ N ≤ kg ∧ SgAt H' (fun j => N ≤ j ∧ j < N') kg rv x.1
theorem c_read {K n : Nat} (hK : big K) (hn : 4 ≤ n) {H : Hp} {N no : Nat} {b : Bs} {v : AV} (hno : no < 18446744073709551616) (hl : b.length ≤ 2 ^ 24) (hb : (b = [] ∧ v = .vs true 0 []) ∨ ∃ k g, v = .rs k g 0 b.length 1 ∧ lk H k = some (g, .arr 1 (byteRows b)) ∧ k < N) :
    Sp K n 74 [.i .u64 (no : Nat), v] H N (ReadQ H N (readS no b)) := by
  refine sp_cps fun Q hQ => ?_
  obtain ⟨n, rfl⟩ : ∃ m, n = m + 1 := ⟨n - 1, by omega⟩
  refine sp_of rfl (run_wp Tryz.func74 rfl (by simp [Tryz.f74]) ?_)
  by_cases h24 : (b.length : Int) < 24
  · have hsl : slLen v = some b.length := by rcases hb with ⟨rfl, rfl⟩ | ⟨k, g, rfl, _⟩ <;> rfl
    have hmv : v.mv = true := by rcases hb with ⟨rfl, rfl⟩ | ⟨k, g, rfl, _⟩ <;> rfl
    simp [lenA_sl, hsl, h24, hmv]
    refine ⟨⟨by kernel_rfl, dyn_quiet (by simp [quietE])⟩, ?_⟩
    rw [show readS no b = (⟨no, [], 0⟩, false) by unfold readS; rw [if_pos (.inl (by omega))]] at hQ
    refine hQ _ _ _ ⟨by omega, fun j hj => ?_, N + 4, .vs true 0 [], rfl, by omega, ⟨?_, by omega, .inl ⟨rfl, rfl⟩⟩⟩
    · have t1 : ¬ j = N + 4 := by omega
      simp [lk_set, t1]
    · simp [lk_set]
  · rcases hb with ⟨rfl, rfl⟩ | ⟨k, g, rfl, hk, hkN⟩
    · simp at h24
    · have f1 : ∀ c, ¬ k = N + c := fun c => by omega
      have f2 : ∀ c, ¬ N + c = k := fun c => by omega
      have l24 : 24 ≤ b.length := by omega
      have bo := bytesOf_rows (b.take 24)
      rw [byteRows_take] at bo
      simp [lenA_sl, h24, hk, lk_set, f1, f2, Nat.add_assoc, l24, bo]
      refine (c_head hK (by omega) hno).cW ?_
      rintro _ H1 n1 ⟨a1, g1, rfl, p1, p2, p3, p4⟩
      have q1 : lk H1 k = some (g, .arr 1 (byteRows b)) := by rw [p4 k (by omega)]; simp [lk_set, f1, hk]
      have q2 : lk H1 (N + 4) = some (0, .cells [.i .u64 (no : Nat), .vs true 0 [], .i .i64 0]) := by rw [p4 _ (by omega)]; simp [lk_set]
      have hl24 : (headB no).length = 24 := head_len no
      have bo2 := bytesOf_rows (headB no)
      have t24 : (byteRows (headB no)).take 24 = byteRows (headB no) := rows_take hl24.symm
      have low : ∀ j, j < N → lk H1 j = lk H j := fun j hj => by
        have t1 : ¬ j = N + 4 := by omega
        rw [p4 j (by omega)]
        simp [lk_set, t1]
      have ec : ({ data := (b.take 24).toArray } : ByteArray) = ba (b.take 24) := rfl
      have ed : ({ data := (headB no).toArray } : ByteArray) = ba (headB no) := rfl
      by_cases he : b.take 24 = headB no
      · simp [p1, hl24, bo2, t24, ec, ed, ba_list, he, q2, lk_set]
        refine ⟨⟨by kernel_rfl, by simp [dynOk, pairsOk, befOf, Region.binds, Eff.apart, Eff.clear, Eff.wkeys, Ref.key, AV.refs0, List.range, List.range.loop, sameAt, lk_set, q1, f1, hk]⟩, ?_⟩
        rw [show readS no b = (⟨no, readR b.length no (b.drop 24), 24 + recsN (readR b.length no (b.drop 24))⟩, true) by unfold readS; rw [if_neg (by rintro (h | h); omega; exact h he)]] at hQ
        generalize hN4 : N + 4 = kg at *
        refine loop_wp (ι := List Bs × Nat × AV × Hp × Nat × Nat) (fun i => { env := [(0, .i .u64 (no : Nat)), (1, .rs k g 0 b.length 1), (6, .ptr kg 0 0)], loc := [], hp := i.2.2.2.1, nx := i.2.2.2.2.1 }) (fun i => b.length - recsN i.1)
          (fun i => SgAt i.2.2.2.1 (fun j => N ≤ j ∧ j < i.2.2.2.2.1) kg i.2.2.1 ⟨no, i.1, i.2.1⟩ ∧ (∀ j, j < N → lk i.2.2.2.1 j = lk H j) ∧ n1 ≤ i.2.2.2.2.1 ∧ i.2.1 = 24 + recsN i.1 ∧ i.2.1 ≤ b.length ∧ readR b.length no (b.drop 24) = i.1 ++ readR i.2.2.2.2.2 (no + i.1.length) (b.drop i.2.1) ∧ b.length - i.2.1 ≤ i.2.2.2.2.2)
          ([], 24, .vs true 0 [], _, _, b.length) rfl ⟨⟨by simp [lk_set], by simp only; omega, .inl ⟨rfl, rfl⟩⟩, fun j hj => ?_, by simp only; omega, rfl, l24, rfl, by simp only; omega⟩ (by simp; unfold big at hK; omega) ?_
        · have t1 : ¬ j = kg := by omega
          simp [lk_set, t1, low j hj]
        rintro Next ⟨pre, sz, rv, H2, M, f⟩ ⟨hS, lw, hM, hsz, hszb, hrd, hf⟩ hnext
        simp only at hS lw hM hsz hszb hrd hf hnext ⊢
        have r1 := hS.top
        simp only at r1
        have r2 : lk H2 k = some (g, .arr 1 (byteRows b)) := (lw k hkN).trans hk
        have kk : ¬ k = kg := by omega
        have kk' : ¬ kg = k := by omega
        obtain ⟨m, hm⟩ : ∃ m, m = b.length - sz := ⟨_, rfl⟩
        obtain ⟨rest, hrest⟩ : ∃ rest, rest = b.drop sz := ⟨_, rfl⟩
        have hrl : rest.length = m := by rw [hrest, List.length_drop, hm]
        rw [← hm] at hf
        rw [← hrest] at hrd
        have done : readR f (no + pre.length) rest = [] → readR b.length no (b.drop 24) = pre := fun e => by rw [hrd, e, List.append_nil]
        have fin : readR f (no + pre.length) rest = [] → ∀ M', M ≤ M' → Q (.tup [.ptr kg 0 0, .b true]) H2 M' := fun e M' hM' => by
          rw [done e] at hQ
          refine hQ _ _ _ ⟨by omega, lw, kg, rv, rfl, by omega, ?_⟩
          rw [hsz] at hS
          exact hS.mono (fun _ _ => rfl) fun j hj => ⟨hj.1, by omega⟩
        simp [r1, r2, hszb, lenA_sl, ← hm]
        by_cases h4 : (m : Int) < 4
        · have e4 : readR f (no + pre.length) rest = [] := by
            cases f with
            | zero => rfl
            | succ f => rw [readR, if_pos (by omega)]
          simp [h4]
          exact fin e4 _ (by omega)
        obtain ⟨f, rfl⟩ : ∃ f', f = f' + 1 := ⟨f - 1, by omega⟩
        have m4 : 4 ≤ m := by omega
        have c4 : sz + 4 ≤ b.length := by omega
        have cm : sz + m ≤ b.length := by omega
        obtain ⟨nn, hnn⟩ : ∃ nn, nn = numB (rest.take 4) := ⟨_, rfl⟩
        have nlt : nn < 4294967296 := by
          have := numB_lt (rest.take 4)
          rw [List.length_take, Nat.min_eq_left (by omega), ← hnn] at this
          exact this
        rw [readR, if_neg (by omega), ← hnn] at done fin hrd
        have sl4 : ((byteRows b).drop sz).take 4 = byteRows (rest.take 4) := by rw [← byteRows_drop, ← byteRows_take, hrest]
        simp [h4, m4, c4, cm, r2]
        refine pn_use (frz_slice (all := byteRows b) (b := rest.take 4) (by simp [r2]) sl4 (by simpa using c4)) (c_number hK (by omega) false (rest.take 4) (by simp; omega)) rfl fun rd => ?_
        rw [← hnn]
        have w1 : IntKind.u64.wrap (m : Int) = (m : Nat) := wrap_u64' (by omega)
        have w2 : IntKind.u64.wrap ((nn : Int) + 12) = (nn : Int) + 12 := wrap_u64i (by omega) (by omega)
        simp
        by_cases hbig : (65536 : Int) < nn
        · have e4 : maxM < nn ∨ rest.length < nn + 12 := .inl (by unfold maxM; omega)
          simp only [if_pos e4] at fin
          simp [hbig]
          exact fin trivial _ (by omega)
        by_cases hshort : (m : Int) < nn + 12
        · have e4 : maxM < nn ∨ rest.length < nn + 12 := .inr (by omega)
          simp only [if_pos e4] at fin
          simp [hbig, lenA_sl, w1, w2, hshort]
          exact fin trivial _ (by omega)
        have e4 : ¬ (maxM < nn ∨ rest.length < nn + 12) := by unfold maxM; omega
        simp only [if_neg e4] at fin done hrd
        obtain ⟨a4, ha4⟩ : ∃ a4, a4 = 4 + nn := ⟨_, rfl⟩
        obtain ⟨a12, ha12⟩ : ∃ a12, a12 = 12 + nn := ⟨_, rfl⟩
        have w4 : IntKind.u64.wrap (4 + (nn : Int)) = (a4 : Nat) := by rw [wrap_u64i (by omega) (by omega)]; omega
        have w12 : IntKind.u64.wrap (12 + (nn : Int)) = (a12 : Nat) := by rw [wrap_u64i (by omega) (by omega)]; omega
        have x1 : 4 ≤ a4 := by omega
        have x2 : a4 ≤ m := by omega
        have x3 : a4 ≤ a12 := by omega
        have x4 : a12 ≤ m := by omega
        have x5 : a4 - 4 = nn := by omega
        have x6 : a12 - a4 = 8 := by omega
        obtain ⟨body, hbody⟩ : ∃ body, body = (rest.drop 4).take nn := ⟨_, rfl⟩
        obtain ⟨sg, hsg⟩ : ∃ sg, sg = (rest.drop (4 + nn)).take 8 := ⟨_, rfl⟩
        have hbl : body.length = nn := by rw [hbody]; simp; omega
        rw [← hsg, ← hbody] at fin done hrd
        have slb : ((byteRows b).drop (sz + 4)).take nn = byteRows body := by rw [← byteRows_drop, ← byteRows_take, hbody, hrest, List.drop_drop]
        have sls : ((byteRows b).drop (sz + a4)).take 8 = byteRows sg := by rw [← byteRows_drop, ← byteRows_take, hsg, hrest, List.drop_drop, ha4]
        have x7 : sz + a4 + 8 ≤ b.length := by omega
        have x8 : sz + 4 + nn ≤ b.length := by omega
        have bos := bytesOf_rows sg
        obtain ⟨s1, s2, s3⟩ := hS.recs.sl
        simp only at s1
        have pl := recsN_ge pre
        obtain ⟨no2, hno2⟩ : ∃ no2, no2 = (no + pre.length) % 18446744073709551616 := ⟨_, rfl⟩
        have w5 : IntKind.u64.wrap (pre.length : Int) = (pre.length : Nat) := wrap_u64' (by omega)
        have w6 : IntKind.u64.wrap ((no : Int) + (pre.length : Nat)) = (no2 : Nat) := by rw [hno2, ← wrap_u64, Int.natCast_add]
        simp [hbig, lenA_sl, w1, w2, w4, w12, hshort, x1, x2, x3, x4, x5, x6, x7, x8, r1, r2, cm, sls, bos, s1, s2, w5, w6]
        refine (c_sum (b := body) (v := .rs k g (sz + 4) nn 1) (all := byteRows b) hK (by omega) (by omega) ⟨by rw [hbl], r2, by rw [hbl]; exact slb, by rw [hbl]; simpa using x8⟩ (by omega) (by omega)).cW ?_
        rintro _ H3 n3 ⟨a3, g3, rfl, t1, t2, t3, t4⟩
        have hss : (sumB no2 body).length = 8 := sum_len _ _
        have hsm : sumB no2 body = sumB (no + pre.length) body := by rw [hno2, sum_mod]
        have bo8 := bytesOf_rows (sumB no2 body)
        have tk8 : (byteRows (sumB no2 body)).take 8 = byteRows (sumB no2 body) := rows_take hss.symm
        have y1 : lk H3 kg = lk H2 kg := t4 kg (by omega)
        have y2 : lk H3 k = lk H2 k := t4 k (by omega)
        have y3 : rv.refs0.all (sameAt (H2, H3)) = true := hS.recs.same fun j hj => t4 j (by omega)
        have ee : ∀ x : Bs, ({ data := x.toArray } : ByteArray) = ba x := fun _ => rfl
        by_cases heq : sg = sumB no2 body
        · have e5 : ¬ sg ≠ sumB (no + pre.length) body := by rw [← hsm]; simp [heq]
          simp only [if_neg e5] at fin done hrd
          have z1 : lk H3 kg = some (0, .cells [.i .u64 (no : Nat), rv, .i .i64 (sz : Nat)]) := y1.trans r1
          have z2 : lk H3 k = some (g, .arr 1 (byteRows b)) := y2.trans r2
          have sc := fun nx => c_sclone (K := K) (n := n) (nx := nx) (by omega) body (by omega)
          have wn : IntKind.i64.wrap (nn : Int) = (nn : Int) := wrap_i64 (by omega) (by omega)
          have wn2 : IntKind.i64.wrap ((nn : Int) + 12) = (nn : Int) + 12 := wrap_i64 (by omega) (by omega)
          have wn3 : IntKind.i64.wrap ((sz : Int) + ((nn : Int) + 12)) = ((sz + (nn + 12) : Nat) : Int) := by rw [wrap_i64 (by omega) (by omega)]; omega
          have hrN : recsN (pre ++ [body]) = recsN pre + (nn + 12) := by rw [recsN_app]; simp [recsN, hbl]
          have key : ∀ (rv' : AV) (H4 : Hp) (M' : Nat), lk H4 kg = some (0, .cells [.i .u64 (no : Nat), rv', .i .i64 ((sz : Int) + (nn + 12))]) → RecsAt H4 (fun j => N ≤ j ∧ j < M') rv' (pre ++ [body]) → (∀ j, j < N → lk H4 j = lk H j) → n3 + 28 ≤ M' →
              Next { env := [(0, .i .u64 (no : Nat)), (1, .rs k g 0 b.length 1), (6, .ptr kg 0 0)], loc := [], hp := H4, nx := M' } := by
            intro rv' H4 M' k1 k2 k3 k4
            refine hnext (pre ++ [body], sz + (nn + 12), rv', H4, M', f) ?_ ⟨⟨k1, (by omega : N ≤ kg ∧ kg < M'), k2⟩, k3, (by omega : n1 ≤ M'), ?_, (by omega : sz + (nn + 12) ≤ b.length), ?_, (by omega : b.length - (sz + (nn + 12)) ≤ f)⟩
            · show b.length - recsN (pre ++ [body]) < b.length - recsN pre
              rw [hrN]
              omega
            · show sz + (nn + 12) = 24 + recsN (pre ++ [body])
              rw [hrN]
              omega
            · show readR b.length no (b.drop 24) = (pre ++ [body]) ++ readR f (no + (pre ++ [body]).length) (b.drop (sz + (nn + 12)))
              rw [hrd]
              simp [hrest, List.drop_drop, Nat.add_assoc]
          have hrec := hS.recs
          simp only at hrec
          rcases hrec with ⟨hp0, rfl⟩ | ⟨a, g', vs, hp0, rfl, l1, l2, l3, l4⟩
          · subst hp0
            simp [t1, hss, tk8, bo8, ee, ba_list, heq, z1]
            refine ⟨⟨by kernel_rfl, by simp [dynOk, pairsOk, befOf, Region.binds, Eff.apart, Eff.clear, Eff.wkeys, Ref.key, AV.refs0, List.range, List.range.loop, sameAt, y1, y2, y3]⟩, ?_⟩
            refine f_use (frz_slice (all := byteRows b) (b := body) (by simp [z2]) slb (by simpa using x8)) (sc _) (by simp) ?_
            have g1 : ∀ c, ¬ kg = n3 + c := fun c => by omega
            have g2 : ∀ c, ¬ n3 + c = kg := fun c => by omega
            have s0 : shown [] 0 0 = [] := shown_nil
            simp [lk_set, Nat.add_assoc, mostB, z1, g1, g2, up_up, wn, wn2, wn3]
            refine ⟨⟨by kernel_rfl, by simp [dynOk, pairsOk, befOf, Region.binds, Eff.apart, Eff.clear, Eff.wkeys, Ref.key, AV.refs0, List.range, List.range.loop, sameAt, y1, y2, y3, g1, g2]⟩, ?_⟩
            refine key (.rs (n3 + 8) 0 0 1 1) _ _ (by simp [lk_set]) ?_ (fun j hj => ?_) (by omega)
            · refine hS.recs.push (b := body) (v := .rs (n3 + 15) (if body = [] then 0 else 1) 0 body.length 1) (fun j hj => ⟨hj.1, by omega⟩) (fun j x hj hx hkx => ?_) (.inr ⟨n3 + 15, if body = [] then 0 else 1, by simp, by simp [lk_set, g2], by omega, by omega⟩) (.inl ⟨rfl, n3 + 8, rfl, by simp [lk_set, g2], by omega, by omega⟩)
              have u1 : j ≠ kg := ne_of_kind hx r1 fun e => by rw [e] at hkx; simp [aoK] at hkx
              have u2 : ∀ c, ¬ j = n3 + c := fun c => by omega
              simp [lk_set, u1, u2, t4 j (by omega)]
            · have u1 : j ≠ kg := by omega
              have u2 : ∀ c, ¬ j = n3 + c := fun c => by omega
              simp [lk_set, u1, u2, t4 j (by omega), lw j hj]
          · have g1 : ∀ c, ¬ kg = n3 + c := fun c => by omega
            have g2 : ∀ c, ¬ n3 + c = kg := fun c => by omega
            have h1a : ∀ c, ¬ a = n3 + c := fun c => by omega
            have h2a : ∀ c, ¬ n3 + c = a := fun c => by omega
            have z3 : lk H3 a = some (g', .arr 1 (vs.map recRow)) := (t4 a (by omega)).trans l1
            have vl : vs.length = pre.length := l3
            have nak : ¬ a = kg := ne_of_kind l1 r1 (by rw [recs_kind hp0 l3 l4]; simp [aoK])
            have nka : ¬ kg = a := fun e => nak e.symm
            have s0 : shown (vs.map recRow) 0 pre.length = vs.map recRow := shown_all (by simp [vl])
            have d0 : (pre.length + 1) * 25 ≤ 68719476736 := by omega
            simp [t1, hss, tk8, bo8, ee, ba_list, heq, z1]
            refine ⟨⟨by kernel_rfl, by simp [dynOk, pairsOk, befOf, Region.binds, Eff.apart, Eff.clear, Eff.wkeys, Ref.key, AV.refs0, List.range, List.range.loop, sameAt, y1, y2, y3, z3, l1]⟩, ?_⟩
            refine f_use (frz_slice (all := byteRows b) (b := body) (by simp [z2]) slb (by simpa using x8)) (sc _) (by simp) ?_
            simp [lk_set, Nat.add_assoc, mostB, z1, z3, g1, g2, h1a, h2a, nak, nka, up_up, wn, wn2, wn3, vl, s0, d0]
            refine ⟨⟨by kernel_rfl, by simp [dynOk, pairsOk, befOf, Region.binds, Eff.apart, Eff.clear, Eff.wkeys, Ref.key, AV.refs0, List.range, List.range.loop, sameAt, y1, y2, y3, g1, g2, h1a, h2a, nak, nka]⟩, ?_⟩
            refine key (.rs a (g' + 1) 0 (pre.length + 1) 1) _ _ (by simp [lk_set]) ?_ (fun j hj => ?_) (by omega)
            · refine hS.recs.push (b := body) (v := .rs (n3 + 15) (if body = [] then 0 else 1) 0 body.length 1) (fun j hj => ⟨hj.1, by omega⟩) (fun j x hj hx hkx => ?_) (.inr ⟨n3 + 15, if body = [] then 0 else 1, by simp, by simp [lk_set, g2, h2a], by omega, by omega⟩) (.inr ⟨a, g', _, rfl, l1, rfl, by simp [lk_set, nak, h1a]⟩)
              have u1 : j ≠ kg := ne_of_kind hx r1 fun e => by rw [e] at hkx; simp [aoK] at hkx
              have u3 : j ≠ a := ne_of_kind hx l1 fun e => by rw [e, recs_kind hp0 l3 l4] at hkx; omega
              have u2 : ∀ c, ¬ j = n3 + c := fun c => by omega
              simp [lk_set, u1, u2, u3, t4 j (by omega)]
            · have u1 : j ≠ kg := by omega
              have u3 : j ≠ a := by omega
              have u2 : ∀ c, ¬ j = n3 + c := fun c => by omega
              simp [lk_set, u1, u2, u3, t4 j (by omega), lw j hj]
        · have he2 : (sg == sumB no2 body) = false := by simpa using heq
          have e5 : sg ≠ sumB (no + pre.length) body := by rw [← hsm]; exact heq
          simp only [if_pos e5] at fin
          simp [t1, hss, tk8, bo8, ee, ba_list, he2]
          refine ⟨⟨by kernel_rfl, by simp [dynOk, pairsOk, befOf, Region.binds, Eff.apart, Eff.clear, Eff.wkeys, Ref.key, AV.refs0, List.range, List.range.loop, sameAt, y1, y2, y3]⟩, ?_⟩
          rw [done (if_pos e5)] at hQ
          refine hQ _ _ _ ⟨by omega, fun j hj => ?_, kg, rv, rfl, by omega, ?_⟩
          · rw [t4 j (by omega)]; exact lw j hj
          · rw [hsz] at hS
            exact hS.mono (fun j hj => t4 j (by omega)) fun j hj => ⟨hj.1, by omega⟩
      · have he2 : (b.take 24 == headB no) = false := by simpa using he
        simp [p1, hl24, bo2, t24, ec, ed, ba_list, he2]
        refine ⟨⟨by kernel_rfl, by simp [dynOk, pairsOk, befOf, Region.binds, Eff.apart, Eff.clear, Eff.wkeys, Ref.key, AV.refs0, List.range, List.range.loop, sameAt, lk_set, q1, f1, hk]⟩, ?_⟩
        rw [show readS no b = (⟨no, [], 0⟩, false) by unfold readS; rw [if_pos (.inr he)]] at hQ
        refine hQ _ _ _ ⟨by omega, low, N + 4, .vs true 0 [], rfl, by omega, ⟨q2, by omega, .inl ⟨rfl, rfl⟩⟩⟩

end Ab
end Go.Proofs.YtmbbnoipoifhhaaGreatDoor
