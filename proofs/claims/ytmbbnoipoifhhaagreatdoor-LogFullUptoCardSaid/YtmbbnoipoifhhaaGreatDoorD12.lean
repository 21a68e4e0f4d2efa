/-
  DERIVED. The program's disk, call by call: New, List, Image.
  Conditions: enough rounds, enough depth; a disk of bounded size.
-/
import Derived.Test.YtmbbnoipoifhhaaGreatDoorD11
set_option linter.all false
set_option maxHeartbeats 4000000
namespace Go.Proofs.YtmbbnoipoifhhaaGreatDoor
namespace Ab
set_option maxRecDepth 100000
set_option maxHeartbeats 8000000
set_option linter.all false
attribute [local simp] wp_region regionA opsA nCall rCall goCallR pCall pnCall lenA appendA appRow newsA rowsSz rowsOf isIntD makeSliceA elemOf rowsBuilt eqA eq1

theorem c_pNew0 {K n nx : Nat} (hn : 1 ≤ n) (q : Int) (hq : q < 0 ∨ 16777216 < q) : callA cfg K n 8 [.i .i64 q] [] nx = some (.tup [.np, .i .i64 1], [], nx + 10) := by
  obtain ⟨n, rfl⟩ : ∃ m, n = m + 1 := ⟨n - 1, by omega⟩
  have : Sp K (n + 1) 8 [.i .i64 q] [] nx fun r hp' nx' => r = .tup [.np, .i .i64 1] ∧ hp' = [] ∧ nx' = nx + 10 := by
    refine sp_cps fun Q hQ => ?_
    refine sp_of rfl (run_wp Tryz.func8 rfl (by simp [Tryz.f8]) ?_)
    by_cases h1 : q < 0
    · simp [h1]
      exact hQ _ _ _ ⟨rfl, rfl, rfl⟩
    · have h2 : 16777216 < q := by omega
      simp [h1, h2]
      exact hQ _ _ _ ⟨rfl, rfl, rfl⟩
  obtain ⟨r, hp', nx', h1, h2, h3, h4⟩ := this
  rw [h1, h2, h3, h4]
theorem c_pNew1 {K n nx : Nat} (hn : 1 ≤ n) (q : Nat) (hq : q ≤ 16777216) :
    callA cfg K n 8 [.i .i64 (q : Nat)] [] nx = some (.tup [.ptr (nx + 11) 0 0, .i .i64 0], [(nx + 9, (0, .mp [])), (nx + 11, (0, .cells [.i .i64 (q : Nat), .mp (some (nx + 9)), .vs true 0 [], .i .i64 0]))], nx + 14) := by
  obtain ⟨n, rfl⟩ : ∃ m, n = m + 1 := ⟨n - 1, by omega⟩
  have : Sp K (n + 1) 8 [.i .i64 (q : Nat)] [] nx fun r hp' nx' => r = .tup [.ptr (nx + 11) 0 0, .i .i64 0] ∧ hp' = [(nx + 9, (0, .mp [])), (nx + 11, (0, .cells [.i .i64 (q : Nat), .mp (some (nx + 9)), .vs true 0 [], .i .i64 0]))] ∧ nx' = nx + 14 := by
    refine sp_cps fun Q hQ => ?_
    refine sp_of rfl (run_wp Tryz.func8 rfl (by simp [Tryz.f8]) ?_)
    have h1 : ¬ (q : Int) < 0 := by omega
    have h2 : ¬ (16777216 : Int) < q := by omega
    simp [h1, h2]
    exact hQ _ _ _ ⟨rfl, rfl, rfl⟩
  obtain ⟨r, hp', nx', h1, h2, h3, h4⟩ := this
  rw [h1, h2, h3, h4]

theorem newDk_inv (q : Nat) (hq : q ≤ 16777216) : (newDk q).Inv 0 := by
  refine ⟨by simpa [newDk] using hq, by simp [newDk], by simp [newDk], by simp [newDk], fun w hw => ?_, fun x hx => by simp [newDk] at hx, by simp [newDk]⟩
  simp [newDk] at hw
  subst hw
  simp [Rising]

/-- A new disk. -/
theorem new_rep {hp : Hp} {nx nx' a b q : Nat} (hab : a ≠ b) (ha : nx ≤ a) (hb : nx ≤ b) (ha2 : a < nx') (hb2 : b < nx') (h1 : lk hp a = some (0, .mp [])) (h2 : lk hp b = some (0, .cells [.i .i64 (q : Nat), .mp (some a), .vs true 0 [], .i .i64 0])) :
    PRep hp nx' b (newDk q) (fun j => nx ≤ j ∧ j < nx') := by
  have hno : ∀ i, ¬ (newDk q).Has i := fun i ⟨w, hw, e, he, _⟩ => by
    simp [newDk] at hw
    subst hw
    simp at he
  refine ⟨fun j hj => hj.2, a, .vs true 0 [], [], fun _ => 0, fun _ => .vs true 0 [], ⟨h2, ⟨hb, hb2⟩, ⟨[], h1, by simp [newDk, Dk.now]⟩, ⟨ha, ha2⟩, .inl ⟨rfl, rfl⟩, rfl, fun j mj w h _ => by simp at h, fun i hi => absurd hi (hno i), fun i j hi => absurd hi (hno i), fun i j kb g n g' n' hi => absurd hi (hno i), fun i kb g n g' n' hi => absurd hi (hno i)⟩⟩

def nameRows (w : Way) : List (List AV) := w.map fun e => [.s (ba e.1)]
@[simp] theorem nameRows_len (w : Way) : (nameRows w).length = w.length := by simp [nameRows]

theorem nameOk_len {s : Bs} (h : nameOk s = true) : 1 ≤ s.length ∧ s.length ≤ 64 := by
  simp [nameOk] at h
  exact ⟨h.1.1, h.1.2⟩

theorem f_list {K n N : Nat} (hn : 1 ≤ n) {d : Dk} {k m : Nat} {wv : AV} {ms : List Nat} {φ : Nat → Nat} {bv : Nat → AV} {hp : Hp} {S : Nat → Prop} (hI : d.Inv N) (h : PDk hp k m wv ms φ bv d S) (nx : Nat) :
    callA cfg K n 49 [.ptr k 0 0] hp nx = some (if d.now = [] then (.vs true 0 [], hp, nx) else (.rs nx 0 0 d.now.length 1, up hp nx (0, .arr 1 (nameRows d.now)), nx + 1)) := by
  obtain ⟨es, hm, hp'⟩ := h.now
  have hlen : es.length = d.now.length := by have := hp'.length_eq; simpa using this
  have hmem : ∀ e ∈ es, ∃ e' ∈ d.now, e.1 = e'.1 := fun e he => by
    obtain ⟨e', h1, h2⟩ := List.mem_map.1 (hp'.mem_iff.1 he)
    exact ⟨e', h1, by rw [← h2]⟩
  rw [h_list hn h.top hm (perm_nodup hp' hI.rising) (by have := hI.nowlen; omega) (fun e he => by
    obtain ⟨e', h1, h2⟩ := hmem e he
    rw [h2]
    have := (nameOk_len ((hI.way _ hI.now).2.2 e' h1).2).2
    omega), sorted_names hp' hI.rising]
  by_cases hnil : d.now = []
  · have : es = [] := List.eq_nil_of_length_eq_zero (by rw [hlen, hnil]; rfl)
    simp [hnil, this]
  · have : es ≠ [] := fun e => hnil (List.eq_nil_of_length_eq_zero (by rw [← hlen, e]; rfl))
    simp only [if_neg hnil, if_neg this, hlen, nameRows, List.map_map]
    rfl

theorem c_pList {K n N : Nat} (hn : 2 ≤ n) {d : Dk} {k m : Nat} {wv : AV} {ms : List Nat} {φ : Nat → Nat} {bv : Nat → AV} {hp : Hp} {nx : Nat} {S : Nat → Prop} (hI : d.Inv N) (h : PDk hp k m wv ms φ bv d S) :
    Sp K n 71 [.ptr k 0 0] hp nx fun r hp' nx' => nx ≤ nx' ∧ (∀ j, j < nx → lk hp' j = lk hp j) ∧ SX 1 hp' (fun j => nx ≤ j ∧ j < nx') r (nameRows d.now) := by
  refine sp_cps fun Q hQ => ?_
  obtain ⟨n, rfl⟩ : ∃ m, n = m + 1 := ⟨n - 1, by omega⟩
  have el := fun nx => f_list (K := K) (n := n) (by omega) hI h nx
  refine sp_of rfl (run_wp Tryz.func71 rfl (by simp [Tryz.f71]) ?_)
  by_cases hnil : d.now = []
  · simp [el, hnil]
    exact hQ _ _ _ ⟨by omega, fun _ _ => rfl, .inl ⟨by simp [hnil, nameRows], rfl⟩⟩
  · simp [el, hnil, Nat.add_assoc]
    exact hQ _ _ _ ⟨by omega, fun j hj => by rw [lk_set, if_neg (by omega)], .inr ⟨_, _, by simp; exact ⟨rfl, rfl⟩, by rw [lk_set, if_pos rfl], by omega, by omega⟩⟩

/-- Rows of a disk's image. -/
def EntR3 (hp : Hp) (S : Nat → Prop) (d : Dk) (rows : List (List AV)) (w : Way) : Prop :=
  rows.length = w.length ∧ ∀ (i : Nat) (r : List AV) (e : Bs × Nat), rows[i]? = some r → w[i]? = some e → ∃ v, r = [.s (ba e.1), v, .i .i64 ((d.file e.2).fast : Nat)] ∧ SX 1 hp S v (byteRows (d.file e.2).b)

theorem EntR3.mono {hp hp' : Hp} {S S' : Nat → Prop} {d : Dk} {rows : List (List AV)} {w : Way} (h : EntR3 hp S d rows w) (hf : ∀ j, S j → lk hp' j = lk hp j) (hS : ∀ j, S j → S' j) : EntR3 hp' S' d rows w :=
  ⟨h.1, fun i r e h1 h2 => by
    obtain ⟨v, a, b⟩ := h.2 i r e h1 h2
    exact ⟨v, a, b.mono hf hS⟩⟩
theorem EntR3.snoc {hp : Hp} {S : Nat → Prop} {d : Dk} {rows : List (List AV)} {w : Way} {e : Bs × Nat} {v : AV} (h : EntR3 hp S d rows w) (hv : SX 1 hp S v (byteRows (d.file e.2).b)) :
    EntR3 hp S d (rows ++ [[.s (ba e.1), v, .i .i64 ((d.file e.2).fast : Nat)]]) (w ++ [e]) := by
  refine ⟨by simp [h.1], fun i r e' h1 h2 => ?_⟩
  by_cases hi : i < w.length
  · rw [List.getElem?_append_left (by rw [h.1]; exact hi)] at h1
    rw [List.getElem?_append_left hi] at h2
    exact h.2 i r e' h1 h2
  · rw [List.getElem?_append_right (by omega)] at h2
    rw [List.getElem?_append_right (by rw [h.1]; omega)] at h1
    have hi2 : i - w.length = 0 := by
      have := (List.getElem?_eq_some_iff.1 h2).1
      simp at this; omega
    rw [h.1, hi2] at h1
    rw [hi2] at h2
    simp at h1 h2
    subst h1 h2
    exact ⟨v, rfl, hv⟩

theorem SX.mono1 {hp hp' : Hp} {S S' : Nat → Prop} {v : AV} {rows : List (List AV)} (h : SX 1 hp S v rows) (hf : ∀ j, S j → (∃ g r, lk hp j = some (g, .arr 1 r)) → lk hp' j = lk hp j) (hS : ∀ j, S j → S' j) : SX 1 hp' S' v rows := by
  rcases h with h | ⟨k, g, h1, h2, h5⟩
  · exact .inl h
  · exact .inr ⟨k, g, h1, (hf k h5 ⟨g, _, h2⟩).trans h2, hS k h5⟩
theorem EntR3.mono1 {hp hp' : Hp} {S S' : Nat → Prop} {d : Dk} {rows : List (List AV)} {w : Way} (h : EntR3 hp S d rows w) (hf : ∀ j, S j → (∃ g r, lk hp j = some (g, .arr 1 r)) → lk hp' j = lk hp j) (hS : ∀ j, S j → S' j) : EntR3 hp' S' d rows w :=
  ⟨h.1, fun i r e h1 h2 => by
    obtain ⟨v, a, b⟩ := h.2 i r e h1 h2
    exact ⟨v, a, b.mono1 hf hS⟩⟩

theorem c_pImage {K n N : Nat} (hK : big K) (hn : 2 ≤ n) {d : Dk} {k m : Nat} {wv : AV} {ms : List Nat} {φ : Nat → Nat} {bv : Nat → AV} {hp : Hp} {nx : Nat} {S : Nat → Prop} (hI : d.Inv N) (h : PDk hp k m wv ms φ bv d S) (hS : ∀ j, S j → j < nx) :
    Sp K n 57 [.ptr k 0 0] hp nx fun r hp' nx' => nx ≤ nx' ∧ (∀ j, j < nx → lk hp' j = lk hp j) ∧ ∃ rows, SX 3 hp' (fun j => nx ≤ j ∧ j < nx') r rows ∧ EntR3 hp' (fun j => nx ≤ j ∧ j < nx') d rows d.now := by
  refine sp_cps fun Q hQ => ?_
  obtain ⟨n, rfl⟩ : ∃ m, n = m + 1 := ⟨n - 1, by omega⟩
  obtain ⟨es, hm, hp'⟩ := h.now
  have el := fun nx => f_list (K := K) (n := n) (by omega) hI h nx
  have hg := h.top
  have hk := hS k h.topS
  have hm1 := hS m h.nowS
  have h64 := hI.nowlen
  refine sp_of rfl (run_wp Tryz.func57 rfl (by simp [Tryz.f57]) ?_)
  by_cases hnil : d.now = []
  · simp [el, hnil]
    refine loop_wp (ι := Unit) (fun _ => { env := [(0, .ptr k 0 0), (3, .vs true 0 []), (8, .vs true 0 []), (9, .i .i64 (0 : Nat)), (10, .i .i64 0)], loc := [], hp := hp, nx := _ }) (fun _ => 0) (fun _ => True) () rfl trivial (by unfold big at hK; omega) ?_
    intro Next _ _ _
    simp
    exact hQ _ _ _ ⟨by omega, fun _ _ => rfl, [], .inl ⟨rfl, rfl⟩, by simp [EntR3, hnil]⟩
  · simp [el, hnil, Nat.add_assoc]
    obtain ⟨nx1, hnx1⟩ : ∃ nx1, nx1 = nx + 12 := ⟨_, rfl⟩
    obtain ⟨hp1, hhp1⟩ : ∃ hp1, hp1 = up hp (nx + 6) (0, .arr 1 (nameRows d.now)) := ⟨_, rfl⟩
    refine loop_wp (ι := Nat × Nat × Hp × AV × List (List AV)) (fun x => { env := [(0, .ptr k 0 0), (3, x.2.2.2.1), (8, .rs (nx + 6) 0 0 d.now.length 1), (9, .i .i64 (d.now.length : Nat)), (10, .i .i64 (x.1 : Nat))], loc := [], hp := x.2.2.1, nx := x.2.1 }) (fun x => d.now.length - x.1)
      (fun x => x.1 ≤ d.now.length ∧ nx + 7 ≤ x.2.1 ∧ (∀ j, j < nx + 7 → lk x.2.2.1 j = lk (up hp (nx + 6) (0, .arr 1 (nameRows d.now))) j) ∧ SX 3 x.2.2.1 (fun j => nx + 7 ≤ j ∧ j < x.2.1) x.2.2.2.1 x.2.2.2.2 ∧ EntR3 x.2.2.1 (fun j => nx + 7 ≤ j ∧ j < x.2.1) d x.2.2.2.2 (d.now.take x.1))
      (0, nx + 7, _, .vs true 0 [], []) rfl ⟨Nat.zero_le _, by simp only; omega, fun _ _ => rfl, .inl ⟨rfl, rfl⟩, by simp [EntR3]⟩ (by simp; unfold big at hK; omega) ?_
    rintro Next ⟨i, N, H, acc, rows⟩ ⟨hi, hN, hH, hacc, hrows⟩ hnext
    simp only at hi hN hH hacc hrows hnext ⊢
    have hlow : ∀ j, j < nx → lk H j = lk hp j := fun j hj => by rw [hH j (by omega), lk_set, if_neg (by omega)]
    have hnames : lk H (nx + 6) = some (0, .arr 1 (nameRows d.now)) := by rw [hH _ (by omega), lk_set, if_pos rfl]
    have hgk : lk H k = _ := (hlow k hk).trans hg
    have hgm : lk H m = _ := (hlow m hm1).trans hm
    by_cases hlt : i < d.now.length
    · have c1 : (i : Int) < d.now.length := by omega
      have c3 : IntKind.i64.wrap ((i : Int) + 1) = ((i + 1 : Nat) : Int) := by rw [wrap_i64 (by omega) (by omega)]; omega
      obtain ⟨e, he⟩ : ∃ e, d.now[i]? = some e := ⟨_, List.getElem?_eq_getElem hlt⟩
      have hmem := List.mem_of_getElem? he
      have hrow : (nameRows d.now)[i]? = some [.s (ba e.1)] := by simp [nameRows, he]
      have hfw : findW d.now e.1 = some e.2 := find_of hI.rising.nodup hmem
      have hff := perm_find e.1 hp' hI.rising
      rw [hfw] at hff
      obtain ⟨idx, hfi⟩ : ∃ idx, fI es e.1 0 = some (idx, φ e.2) := by
        cases hx : fI es e.1 0 with
        | none => rw [hx] at hff; cases hff
        | some y => rw [hx] at hff; simp at hff; exact ⟨y.1, by rw [← hff]⟩
      obtain ⟨f, z1, z2, z3, z5, z6, z7⟩ := file_form h ⟨_, hI.now, e, hmem, rfl⟩
      have hφ := hS _ z3
      have hgf := (hlow _ hφ).trans z2
      have hl := hI.file f (List.mem_of_getElem? z1)
      have htk : d.now.take (i + 1) = d.now.take i ++ [e] := by
        rw [List.take_succ, he]; rfl
      have hrl : rows.length = i := by rw [hrows.1]; simp; omega
      have d1 : (rows.length + 1) * 49 ≤ 68719476736 := by omega
      have d4 : shown rows 0 rows.length = rows := shown_all rfl
      have fk : ∀ x, x < nx → ∀ c, ¬ x = N + c := fun x hx c => by omega
      have fk' : ∀ x, x < nx → ∀ c, ¬ N + c = x := fun x hx c => by omega
      have fn : ∀ c, ¬ nx + 6 = N + c := fun c => by omega
      -- the next state
      have step : ∀ (H' : Hp) (nx' : Nat) (acc' v : AV) (a' g' : Nat), acc' = .rs a' g' 0 (rows.length + 1) 3 → lk H' a' = some (g', .arr 3 (rows ++ [[.s (ba e.1), v, .i .i64 (f.fast : Nat)]])) → nx + 7 ≤ a' → a' < nx' → N ≤ nx' →
          (∀ j, j < N → (∀ g n, acc ≠ .rs j g 0 n 3) → lk H' j = lk H j) → SX 1 H' (fun j => nx + 7 ≤ j ∧ j < nx') v (byteRows f.b) →
          Next { env := [(0, .ptr k 0 0), (3, acc'), (8, .rs (nx + 6) 0 0 d.now.length 1), (9, .i .i64 (d.now.length : Nat)), (10, .i .i64 ((i + 1 : Nat) : Int))], loc := [], hp := H', nx := nx' } := by
        intro H' nx' acc' v a' g' q1 q2 q3 q4 q5 q6 q7
        have hka : ∀ j, (∃ g r, lk H j = some (g, .arr 1 r)) → ∀ g n, acc ≠ .rs j g 0 n 3 := fun j ⟨g, r, hr⟩ g2 n2 e2 => by
          rcases hacc with ⟨_, hb⟩ | ⟨ka, ga, ha, hb, hc⟩
          · rw [hb] at e2; cases e2
          · rw [ha] at e2; cases e2; rw [hr] at hb; cases hb
        have hka2 : ∀ j, j < nx + 7 → ∀ g n, acc ≠ .rs j g 0 n 3 := fun j hj g2 n2 e2 => by
          rcases hacc with ⟨_, hb⟩ | ⟨ka, ga, ha, hb, hc⟩
          · rw [hb] at e2; cases e2
          · rw [ha] at e2; cases e2; omega
        refine hnext (i + 1, nx', H', acc', rows ++ [[.s (ba e.1), v, .i .i64 (f.fast : Nat)]]) (by simp only; omega) ⟨by simp only; omega, by simp only; omega, fun j hj => ?_, .inr ⟨a', g', by simp [q1], q2, q3, q4⟩, ?_⟩
        · rw [q6 j (by omega) (hka2 j hj)]; exact hH j hj
        · simp only [htk]
          have h1 : EntR3 H' (fun j => nx + 7 ≤ j ∧ j < nx') d rows (d.now.take i) := hrows.mono1 (fun j hj hx => q6 j hj.2 (hka j hx)) (fun j hj => ⟨hj.1, by omega⟩)
          have h2 := h1.snoc (e := e) (v := v) (by rw [z6]; exact q7)
          rw [z6] at h2
          exact h2
      have fN : ∀ x, x < N → ∀ c, ¬ x = N + c := fun x hx c => by omega
      have fN' : ∀ x, x < N → ∀ c, ¬ N + c = x := fun x hx c => by omega
      rcases z7 with ⟨fa, fb⟩ | ⟨kb, g, fa, fb, b2, b3, b4⟩
      · rw [fb] at hgf
        have sc := f_sclone0 (K := K) (n := n) (by omega) 0
        rcases hacc with ⟨ha, hb⟩ | ⟨ka, ga, ha, hb, hc⟩
        · subst ha hb
          simp [c1, c3, hnames, hrow, hgk, hgm, lookup_enc, hfi, keyD, hgf, sc, mostB, Nat.add_assoc, lk_set]
          refine ⟨⟨by kernel_rfl, ?_⟩, ?_⟩
          · simp [dynOk, pairsOk, befOf, Region.binds, Eff.apart, Eff.clear, Eff.wkeys, Ref.key, AV.refs0, List.range, List.range.loop, fN' _ (show φ e.2 < N by omega), fN _ (show φ e.2 < N by omega)]
          · refine step _ _ _ (.vs true 0 []) (N + 24) 0 rfl (by simp [lk_set]) (by omega) (by omega) (by omega) (fun j hj _ => by simp [lk_set, fN j hj]) (.inl ⟨by rw [fa]; rfl, rfl⟩)
        · subst ha
          have g2 : ¬ ka = N + 23 := by omega
          simp [c1, c3, hnames, hrow, hgk, hgm, lookup_enc, hfi, keyD, hgf, sc, mostB, Nat.add_assoc, lk_set, hb, fN ka (by omega), fN' ka (by omega), d1, d4]
          refine ⟨⟨by kernel_rfl, ?_⟩, ?_⟩
          · simp [dynOk, pairsOk, befOf, Region.binds, Eff.apart, Eff.clear, Eff.wkeys, Ref.key, AV.refs0, List.range, List.range.loop, fN' _ (show φ e.2 < N by omega), fN _ (show φ e.2 < N by omega), fN ka (by omega), fN' ka (by omega), ne_of_lk hb hgf (by simp), (ne_of_lk hb hgf (by simp)).symm]
          · refine step _ _ _ (.vs true 0 []) ka (ga + 1) rfl (by simp [lk_set]) (by omega) (by omega) (by omega) (fun j hj hne => ?_) (.inl ⟨by rw [fa]; rfl, rfl⟩)
            have : ¬ j = ka := fun e => hne ga rows.length (by rw [e])
            simp [lk_set, fN j hj, this]
      · rw [fa] at hgf
        have hkb := hS _ b4
        have hgb : lk H kb = _ := (hlow kb hkb).trans fb
        have tk : (byteRows f.b).take f.b.length = byteRows f.b := List.take_of_length_le (by simp)
        have sc := f_sclone (K := K) (n := n) (by omega) f.b (by omega)
        rcases hacc with ⟨ha, hb⟩ | ⟨ka, ga, ha, hb, hc⟩
        · subst ha hb
          simp [c1, c3, hnames, hrow, hgk, hgm, lookup_enc, hfi, keyD, hgf, hgb, sc, tk, frz_bytes, mostB, Nat.add_assoc, lk_set, fN _ (show φ e.2 < N by omega)]
          refine ⟨⟨by kernel_rfl, ?_⟩, ?_⟩
          · simp [dynOk, pairsOk, befOf, Region.binds, Eff.apart, Eff.clear, Eff.wkeys, Ref.key, AV.refs0, List.range, List.range.loop, fN' _ (show φ e.2 < N by omega), fN _ (show φ e.2 < N by omega), fN kb (by omega), fN' kb (by omega)]
          · refine step _ _ _ (.rs (N + 29) (gz f.b) 0 f.b.length 1) (N + 24) 0 rfl (by simp [lk_set]) (by omega) (by omega) (by omega) (fun j hj _ => by simp [lk_set, fN j hj]) (.inr ⟨N + 29, gz f.b, by simp, by simp [lk_set], by omega, by omega⟩)
        · subst ha
          simp [c1, c3, hnames, hrow, hgk, hgm, lookup_enc, hfi, keyD, hgf, hgb, sc, tk, frz_bytes, mostB, Nat.add_assoc, lk_set, hb, fN ka (by omega), fN' ka (by omega), d1, d4, fN _ (show φ e.2 < N by omega)]
          refine ⟨⟨by kernel_rfl, ?_⟩, ?_⟩
          · simp [dynOk, pairsOk, befOf, Region.binds, Eff.apart, Eff.clear, Eff.wkeys, Ref.key, AV.refs0, List.range, List.range.loop, fN' _ (show φ e.2 < N by omega), fN _ (show φ e.2 < N by omega), fN kb (by omega), fN' kb (by omega), fN ka (by omega), fN' ka (by omega), ne_of_lk hb hgf (by simp), (ne_of_lk hb hgf (by simp)).symm, ne_of_lk hb hgb (by simp), (ne_of_lk hb hgb (by simp)).symm]
          · refine step _ _ _ (.rs (N + 29) (gz f.b) 0 f.b.length 1) ka (ga + 1) rfl (by simp [lk_set]) (by omega) (by omega) (by omega) (fun j hj hne => ?_) (.inr ⟨N + 29, gz f.b, by simp, by simp [lk_set, fN' ka (show ka < N by omega)], by omega, by omega⟩)
            have : ¬ j = ka := fun e => hne ga rows.length (by rw [e])
            simp [lk_set, fN j hj, this]
    · have hie : i = d.now.length := by omega
      have c1 : ¬ (i : Int) < d.now.length := by omega
      have hmv : acc.mv = true := by
        rcases hacc with ⟨_, hb⟩ | ⟨ka, ga, ha, _⟩
        · rw [hb]; rfl
        · rw [ha]; rfl
      simp [c1, hmv]
      rw [hie, List.take_length] at hrows
      refine hQ _ _ _ ?_
      refine ⟨by omega, hlow, rows, ?_, hrows.mono (fun _ _ => rfl) fun j hj => ⟨by omega, by omega⟩⟩
      exact hacc.mono (fun _ _ => rfl) fun j hj => ⟨by omega, by omega⟩
end Ab
end Go.Proofs.YtmbbnoipoifhhaaGreatDoor
