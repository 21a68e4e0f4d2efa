/-
  DERIVED. locksteplaw26.Records, Logs: logs copied, each record apart; what they are as they stand.
  Conditions: enough rounds, enough depth; bounded lengths.
-/
import Derived.Test.YtidoflgcblglbaaDoorWH
set_option linter.all false
set_option maxHeartbeats 4000000
namespace Go.Proofs.YtidoflgcblglbaaDoor
namespace Ab
open Go.Lib
set_option maxRecDepth 100000
set_option maxHeartbeats 4000000
set_option linter.all false
section
attribute [local simp] wp_region regionA opsA nCall rCall goCallR pCall pnCall lenA appendA appRow newsA rowsSz rowsOf isIntD makeSliceA elemOf rowsBuilt eqA eq1

theorem c_RecordsG {K n nx : Nat} (hK : big K) (hn : 3 ≤ n) {z : Bool} {rows : List (List AV)} {l : List Rec} (hv : RecsV (.vs z 6 rows) l) (hB : LogB l) :
    Sp K n 17 [.vs z 6 rows] [] nx fun v hp' nx' => nx ≤ nx' ∧ NovH hp' ∧ (∀ j x, lk hp' j = some x → nx ≤ j ∧ j < nx') ∧ ∃ kn g out, v = .rs kn g 0 l.length 6 ∧ lk hp' kn = some (g, .arr 6 out) ∧ out.length = l.length ∧ nx ≤ kn ∧ kn < nx' ∧ ApartR out ∧ ∀ (j : Nat) (c : List AV) (r : Rec), out[j]? = some c → l[j]? = some r → ∃ a ga b gb, c = recHeap a ga b gb r ∧ RowG false hp' nx nx' c r := by
  refine sp_cps fun Q hQ => ?_
  obtain ⟨n, rfl⟩ : ∃ m, n = m + 1 := ⟨n - 1, by omega⟩
  have hv0 := hv
  obtain ⟨z', rows', e, hrl, _, hrow⟩ := hv0
  cases e
  have hl := hB.len
  have w1 : IntKind.i64.wrap ((l.length : Int) + 1) = (l.length : Int) + 1 := wrap_i64 (by omega) (by omega)
  have w2 : (0 : Int) ≤ (l.length : Int) + 1 := by omega
  have d2 : (l.length + 1) * 89 ≤ 68719476736 := by omega
  refine sp_of rfl (run_wp Tryd.func17 rfl (by simp [Tryd.f17]) ?_)
  simp [hrl, mostB, w1, w2, d2]
  generalize hkn : nx + 1 + 3 = kn
  refine loop_wp (ι := Nat × List (List AV) × Nat × Hp × Nat) (fun i => { env := [(0, .vs z 6 rows), (3, .rs kn i.2.2.1 0 i.1 6), (4, .i .i64 (i.1 : Nat))], loc := [], hp := i.2.2.2.1, nx := i.2.2.2.2 }) (fun i => l.length - i.1)
    (fun i => i.1 ≤ l.length ∧ NovH i.2.2.2.1 ∧ nx ≤ i.2.2.2.2 ∧ kn < i.2.2.2.2 ∧ (∀ j x, lk i.2.2.2.1 j = some x → nx ≤ j ∧ j < i.2.2.2.2) ∧ lk i.2.2.2.1 kn = some (i.2.2.1, .arr 6 i.2.1) ∧ i.2.1.length = i.1 ∧ (∀ (j : Nat) (c : List AV) (r : Rec), i.2.1[j]? = some c → l[j]? = some r → ∃ a ga b gb, c = recHeap a ga b gb r ∧ RowG false i.2.2.2.1 nx i.2.2.2.2 c r) ∧ ApartR i.2.1) (0, [], 0, [(kn, (0, .arr 6 []))], _) rfl ⟨Nat.zero_le _, fun e he => (by simp at he; rw [he]; rfl), by simp only; omega, by simp only; omega, fun j x h => ?_, by simp [lk], rfl, fun j c r h => (by simp at h), by simp [ApartR]⟩ (by simp; unfold big at hK; omega) ?_
  · simp only [lk] at h
    split at h
    · simp only; omega
    · cases h
  rintro Next ⟨i, out, g, H, N⟩ ⟨hi, hNov, hN, hkN, hkeys, hlk, hol, hrecs, hap⟩ hnext
  simp only at hi hNov hN hkN hkeys hlk hol hrecs hap hnext
  by_cases hlt : i < l.length
  · obtain ⟨r, hr⟩ : ∃ r, l[i]? = some r := ⟨_, List.getElem?_eq_getElem hlt⟩
    obtain ⟨zp, za, hrc, hzp, hza⟩ := recs_at hv hr
    have hrb := hB.each r (List.mem_of_getElem? hr)
    have hrecd := fun N => c_Record (K := K) (n := n) (nx := N) (by omega) zp za r hzp hza hrb
    have hre : ∀ N, recHeap (N + 6) (if r.parts = [] then 0 else 1) (N + 21) (if r.args = [] then 0 else 1) r = [.i .u64 (r.id : Nat), .i .u64 (r.client : Nat), .i .u64 (r.seq : Nat), .rs (N + 6) (if r.parts = [] then 0 else 1) 0 r.parts.length 1, .s r.proc, .rs (N + 21) (if r.args = [] then 0 else 1) 0 r.args.length 3] := fun N => rfl
    simp only [hre] at hrecd
    unfold recCells at hrecd
    have c1 : (i : Int) < l.length := by omega
    have c3 : IntKind.i64.wrap ((i : Int) + 1) = ((i + 1 : Nat) : Int) := by rw [wrap_i64 (by omega) (by omega)]; omega
    have hsh : shown out 0 i = out := shown_all (by omega)
    have hb : (i + 1) * 89 ≤ 68719476736 := by omega
    have hne : ∀ c, ¬ kn = N + c := fun c => by omega
    have hni : (ints r.parts).all (fun r => r.all nov1) = true := by simp [ints, nov1]
    have hnv : (valRows r.args).all (fun r => r.all nov1) = true := by simp [valRows, Val.row, nov1]
    simp [hrl, c1, hrc, recCells, hrecd, c3, mostB, lk_set, hlk, hne, hol, hsh, hb, hni, hnv, novO, nov, nov1, Nat.add_assoc]
    refine hnext (i + 1, out ++ [recHeap (N + 19) (if r.parts = [] then 0 else 1) (N + 34) (if r.args = [] then 0 else 1) r], g + 1, up (up (up (up H (N + 34) (if r.args = [] then 0 else 1, AO.arr 3 (valRows r.args))) (N + 19) (if r.parts = [] then 0 else 1, AO.arr 1 (ints r.parts))) (N + 10) (0, AO.arr 6 [recHeap (N + 19) (if r.parts = [] then 0 else 1) (N + 34) (if r.args = [] then 0 else 1) r])) kn (g + 1, AO.arr 6 (out ++ [recHeap (N + 19) (if r.parts = [] then 0 else 1) (N + 34) (if r.args = [] then 0 else 1) r])), N + 43) (by simp only; omega) ⟨by simp only; omega, nov_up (nov_snoc (nov_lk hNov hlk) _ _ _ _ _) (nov_up (nov_rec _ _ _ _ _) (nov_up (nov_ints _) (nov_up (nov_vals _) hNov))), by simp only; omega, by simp only; omega, fun j x h => ?_, by simp only [lk_set, if_true], by simp [hol], fun j c x h1 h2 => ?_, ?_⟩
    · simp only [lk_set] at h
      split at h
      · simp only; omega
      · split at h
        · simp only; omega
        · split at h
          · simp only; omega
          · split at h
            · simp only; omega
            · have := hkeys j x h; simp only; omega
    · simp only at h1 h2 ⊢
      have hlo : out.length = i := hol
      by_cases e : j < i
      · rw [List.getElem?_append_left (by omega)] at h1
        obtain ⟨a, ga, b, gb, q1, q2⟩ := hrecs j c x h1 h2
        refine ⟨a, ga, b, gb, q1, q2.keep (fun j e1 e2 ⟨g', sz, rows', e3, e4⟩ => ?_) (by omega)⟩
        have e5 := lk_ne e4 hlk e3
        rw [lk_set, if_neg e5, lk_set, if_neg (by omega), lk_set, if_neg (by omega), lk_set, if_neg (by omega)]
      · have hj := (List.getElem?_eq_some_iff.1 h1).1
        rw [List.length_append, List.length_singleton] at hj
        have hji : j = i := by omega
        subst hji
        rw [List.getElem?_append_right (by omega), hlo, Nat.sub_self] at h1
        cases h1
        rw [hr] at h2
        cases h2
        refine ⟨N + 19, _, N + 34, _, rfl, rowG_heap ?_ ?_ (by omega) (by omega) (by omega) (by omega)⟩
        · rw [lk_set, if_neg (by omega), lk_set, if_neg (by omega), lk_set, if_pos rfl]
        · rw [lk_set, if_neg (by omega), lk_set, if_neg (by omega), lk_set, if_neg (by omega), lk_set, if_pos rfl]
    · refine apart_snoc hap fun x hx b hb => ?_
      obtain ⟨j, hj⟩ := List.mem_iff_getElem?.1 hx
      obtain ⟨y, hy⟩ : ∃ y, l[j]? = some y := ⟨_, List.getElem?_eq_getElem (by have := (List.getElem?_eq_some_iff.1 hj).1; omega)⟩
      obtain ⟨_, _, _, _, _, q2⟩ := hrecs j x y hj hy
      have := q2.arg_lt hb
      rw [argO_heap]
      intro e
      injection e with e
      omega
  · have hil : i = l.length := by omega
    subst hil
    simp [hrl]
    exact hQ _ _ _ ⟨by omega, hNov, fun j x h => by have := hkeys j x h; omega, kn, g, out, rfl, hlk, hol, by omega, by omega, hap, fun j c r h1 h2 => by
      obtain ⟨a, ga, b, gb, q1, q2⟩ := hrecs j c r h1 h2
      exact ⟨a, ga, b, gb, q1, q2.keep (fun _ _ _ _ => rfl) (by omega)⟩⟩
end

/- Logs as they stand on the heap. -/
def InR (H : Hp) (lo N : Nat) (v : AV) (l : List Rec) : Prop := ∃ kn g rows, v = .rs kn g 0 l.length 6 ∧ lk H kn = some (g, .arr 6 rows) ∧ rows.length = l.length ∧ lo ≤ kn ∧ kn < N ∧ ∀ (j : Nat) (c : List AV) (r : Rec), rows[j]? = some c → l[j]? = some r → ∃ a ga b gb, c = recHeap a ga b gb r ∧ lk H a = some (ga, .arr 1 (ints r.parts)) ∧ lk H b = some (gb, .arr 3 (valRows r.args)) ∧ lo ≤ a ∧ a < N ∧ lo ≤ b ∧ b < N
def InL (H : Hp) (N : Nat) (v : AV) (logs : Logs) : Prop := ∃ kn g rows, v = .rs kn g 0 logs.length 1 ∧ lk H kn = some (g, .arr 1 rows) ∧ rows.length = logs.length ∧ kn < N ∧ ∀ (i : Nat) (c : List AV) (l : List Rec), rows[i]? = some c → logs[i]? = some l → ∃ w, c = [w] ∧ InR H (kn + 1) N w l
theorem InR.keep {H H' : Hp} {lo N N' : Nat} {v : AV} {l : List Rec} (h : InR H lo N v l) (hk : ∀ j, lo ≤ j → j < N → lk H' j = lk H j) (hN : N ≤ N') : InR H' lo N' v l := by
  obtain ⟨kn, g, rows, h1, h2, h3, h4, h5, h6⟩ := h
  refine ⟨kn, g, rows, h1, by rw [hk _ h4 h5]; exact h2, h3, h4, by omega, fun j c r hc hr => ?_⟩
  obtain ⟨a, ga, b, gb, q1, q2, q3, q4, q5, q6, q7⟩ := h6 j c r hc hr
  exact ⟨a, ga, b, gb, q1, by rw [hk _ q4 q5]; exact q2, by rw [hk _ q6 q7]; exact q3, q4, by omega, q6, by omega⟩
theorem InR.low {H : Hp} {lo lo' N : Nat} {v : AV} {l : List Rec} (h : InR H lo N v l) (hl : lo' ≤ lo) : InR H lo' N v l := by
  obtain ⟨kn, g, rows, h1, h2, h3, h4, h5, h6⟩ := h
  refine ⟨kn, g, rows, h1, h2, h3, by omega, h5, fun j c r hc hr => ?_⟩
  obtain ⟨a, ga, b, gb, q1, q2, q3, q4, q5, q6, q7⟩ := h6 j c r hc hr
  exact ⟨a, ga, b, gb, q1, q2, q3, by omega, q5, by omega, q7⟩
theorem InL.keep {H H' : Hp} {N N' : Nat} {v : AV} {logs : Logs} (h : InL H N v logs) (hk : ∀ j, j < N → lk H' j = lk H j) (hN : N ≤ N') : InL H' N' v logs := by
  obtain ⟨kn, g, rows, h1, h2, h3, h4, h5⟩ := h
  refine ⟨kn, g, rows, h1, by rw [hk _ h4]; exact h2, h3, by omega, fun i c l hc hl => ?_⟩
  obtain ⟨w, e, hw⟩ := h5 i c l hc hl
  exact ⟨w, e, hw.keep (fun j _ hj => hk j hj) hN⟩
theorem frz_ints {get : Ref → Option AO} {d : Nat} : ∀ n : List Int, mapO (mapO (frz get (d + 1))) (ints n) = some (ints n)
  | [] => rfl
  | x :: n => by
    have := frz_ints (get := get) (d := d) n
    simp only [ints, List.map_cons, mapO, frz, Option.map_some] at this ⊢
    rw [this]
    rfl
theorem frz_vals {get : Ref → Option AO} {d : Nat} : ∀ n : List Val, mapO (mapO (frz get (d + 1))) (valRows n) = some (valRows n)
  | [] => rfl
  | x :: n => by
    have := frz_vals (get := get) (d := d) n
    simp only [valRows, Val.row, List.map_cons, mapO, frz, Option.map_some] at this ⊢
    rw [this]
    rfl
theorem lkg_at {hp : Hp} {k g : Nat} {o : AO} (h : lk hp k = some (g, o)) : lkg hp k g = some o := by simp [lkg, h]
theorem frz_list {get : Ref → Option AO} {H : Hp} (hg : ∀ k g, get (.h k g) = lkg H k g) {d k g sz : Nat} {rows rows' : List (List AV)} (hk : lk H k = some (g, .arr sz rows)) (hm : mapO (mapO (frz get d)) rows = some rows') : frz get (d + 1) (.rs k g 0 rows.length sz) = some (.vs false sz rows') := by
  refine frz_rows (all := rows) ?_ (by simp) (by omega) hm
  rw [hg]
  exact lkg_at hk
theorem mapO_each {f : List AV → Option (List AV)} : ∀ {rows : List (List AV)} {n : Nat}, rows.length = n → (∀ (j : Nat) (c : List AV), rows[j]? = some c → ∃ c', f c = some c') → ∃ rows', mapO f rows = some rows' ∧ rows'.length = n ∧ ∀ (j : Nat) (c c' : List AV), rows[j]? = some c → rows'[j]? = some c' → f c = some c'
  | [], n, hn, _ => ⟨[], rfl, hn, fun j c c' h => by simp at h⟩
  | x :: rows, n, hn, h => by
    obtain ⟨y, hy⟩ := h 0 x rfl
    obtain ⟨rows', h1, h2, h3⟩ := mapO_each (f := f) (rows := rows) rfl fun j c hc => h (j + 1) c (by simpa using hc)
    refine ⟨y :: rows', by simp only [mapO, hy, h1, Option.map_some], by simp at hn ⊢; omega, fun j c c' hc hc' => ?_⟩
    cases j with
    | zero => cases hc; cases hc'; exact hy
    | succ j => exact h3 j c c' (by simpa using hc) (by simpa using hc')
theorem frz_rec {get : Ref → Option AO} {H : Hp} (hg : ∀ k g, get (.h k g) = lkg H k g) {d a ga b gb : Nat} {r : Rec} (ha : lk H a = some (ga, .arr 1 (ints r.parts))) (hb : lk H b = some (gb, .arr 3 (valRows r.args))) : mapO (frz get (d + 2)) (recHeap a ga b gb r) = some (recCells false false r) := by
  have e1 := frz_list hg (d := d + 1) ha (frz_ints (get := get) (d := d) r.parts)
  have e2 := frz_list hg (d := d + 1) hb (frz_vals (get := get) (d := d) r.args)
  rw [ints_len] at e1
  rw [valRows_len] at e2
  simp only [recHeap, mapO, frz_i, frz_s, e1, e2, Option.map_some, recCells]
theorem InR.frz {get : Ref → Option AO} {H : Hp} (hg : ∀ k g, get (.h k g) = lkg H k g) {d lo N : Nat} {v : AV} {l : List Rec} (h : InR H lo N v l) : ∃ rows, Ab.frz get (d + 3) v = some (.vs false 6 rows) ∧ RecsV (.vs false 6 rows) l ∧ ∀ (j : Nat) (c : List AV) (r : Rec), rows[j]? = some c → l[j]? = some r → c = recCells false false r := by
  obtain ⟨kn, g, rows, rfl, h2, h3, _, h4, h5⟩ := h
  have hrow : ∀ (j : Nat) (c : List AV), rows[j]? = some c → ∃ r, l[j]? = some r ∧ mapO (Ab.frz get (d + 2)) c = some (recCells false false r) := fun j c hc => by
    obtain ⟨r, hr⟩ : ∃ r, l[j]? = some r := ⟨_, List.getElem?_eq_getElem (by have := (List.getElem?_eq_some_iff.1 hc).1; omega)⟩
    obtain ⟨a, ga, b, gb, rfl, q2, q3, _, _, _, _⟩ := h5 j c r hc hr
    exact ⟨r, hr, frz_rec hg q2 q3⟩
  obtain ⟨rows', m1, m2, m3⟩ := mapO_each (f := mapO (Ab.frz get (d + 2))) h3 fun j c hc => by
    obtain ⟨r, _, e⟩ := hrow j c hc
    exact ⟨_, e⟩
  have := frz_list hg (d := d + 2) h2 m1
  rw [h3] at this
  have hflat : ∀ (i : Nat) (c : List AV) (r : Rec), rows'[i]? = some c → l[i]? = some r → c = recCells false false r := fun i c r hc hr => by
    obtain ⟨c0, hc0⟩ : ∃ c0, rows[i]? = some c0 := ⟨_, List.getElem?_eq_getElem (by have := (List.getElem?_eq_some_iff.1 hr).1; omega)⟩
    obtain ⟨r', hr', e⟩ := hrow i c0 hc0
    have e2 := m3 i c0 c hc0 hc
    rw [hr] at hr'
    cases hr'
    rw [e] at e2
    cases e2
    rfl
  exact ⟨rows', this, ⟨false, rows', rfl, m2, fun h => (by cases h), fun i c r hc hr => ⟨false, false, hflat i c r hc hr, fun h => (by cases h), fun h => (by cases h)⟩⟩, hflat⟩
theorem InL.frz {get : Ref → Option AO} {H : Hp} (hg : ∀ k g, get (.h k g) = lkg H k g) {d N : Nat} {v : AV} {logs : Logs} (h : InL H N v logs) : ∃ w, Ab.frz get (d + 4 + 1) v = some w ∧ LogsV w logs := by
  obtain ⟨kn, g, rows, rfl, h2, h3, h4, h5⟩ := h
  have hrow : ∀ (j : Nat) (c : List AV), rows[j]? = some c → ∃ l ws, logs[j]? = some l ∧ mapO (Ab.frz get (d + 1 + 3)) c = some [.vs false 6 ws] ∧ RecsV (.vs false 6 ws) l := fun j c hc => by
    obtain ⟨l, hl⟩ : ∃ l, logs[j]? = some l := ⟨_, List.getElem?_eq_getElem (by have := (List.getElem?_eq_some_iff.1 hc).1; omega)⟩
    obtain ⟨w, rfl, hw⟩ := h5 j c l hc hl
    obtain ⟨ws, e1, e2, _⟩ := hw.frz hg (d := d + 1)
    refine ⟨l, ws, hl, ?_, e2⟩
    simp only [mapO, e1, Option.map_some]
  obtain ⟨rows', m1, m2, m3⟩ := mapO_each (f := mapO (Ab.frz get (d + 1 + 3))) h3 fun j c hc => by
    obtain ⟨l, ws, _, e, _⟩ := hrow j c hc
    exact ⟨_, e⟩
  have := frz_list hg (d := d + 1 + 3) h2 m1
  rw [h3] at this
  refine ⟨_, this, false, rows', rfl, m2, fun h => (by cases h), fun i c l hc hl => ?_⟩
  obtain ⟨c0, hc0⟩ : ∃ c0, rows[i]? = some c0 := ⟨_, List.getElem?_eq_getElem (by have := (List.getElem?_eq_some_iff.1 hl).1; omega)⟩
  obtain ⟨l', ws, hl', e, e3⟩ := hrow i c0 hc0
  have e2 := m3 i c0 c hc0 hc
  rw [hl] at hl'
  cases hl'
  rw [e] at e2
  cases e2
  exact ⟨_, rfl, e3⟩

end Ab
end Go.Proofs.YtidoflgcblglbaaDoor
