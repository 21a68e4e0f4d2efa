/-
  DERIVED. The program's disk: Crash.
  Conditions: enough rounds, enough depth; a disk of bounded size.
-/
import Derived.Test.YtmbbnoipoifhhaaGreatDoorD12
set_option linter.all false
set_option maxHeartbeats 4000000
namespace Go.Proofs.YtmbbnoipoifhhaaGreatDoor
namespace Ab
set_option maxRecDepth 100000
set_option maxHeartbeats 8000000
set_option linter.all false
attribute [local simp] wp_region regionA opsA nCall rCall goCallR pCall pnCall lenA appendA appRow newsA rowsSz rowsOf isIntD makeSliceA elemOf rowsBuilt eqA eq1

def intRows (l : List Int) : List (List AV) := l.map fun x => [.i .i64 x]
@[simp] theorem intRows_len (l : List Int) : (intRows l).length = l.length := by simp [intRows]
/-- A list of numbers that is handed in. -/
def IR (hp : Hp) (S : Nat → Prop) (nx : Nat) (v : AV) (l : List Int) : Prop :=
  (∃ z, v = .vs z 1 (intRows l) ∧ (z = true → l = [])) ∨ ∃ ka ga, v = .rs ka ga 0 l.length 1 ∧ lk hp ka = some (ga, .arr 1 (intRows l)) ∧ ¬ S ka ∧ ka < nx

/-- Or none, of whatever width. -/
def IR0 (hp : Hp) (S : Nat → Prop) (nx : Nat) (v : AV) (l : List Int) : Prop := IR hp S nx v l ∨ (l = [] ∧ ∃ s, v = .vs true s [])

theorem leftN_lt (k : Int) {n : Nat} (h : 0 < n) : leftN k n < n := Nat.mod_lt _ h
theorem leftN_int (k : Int) (n : Nat) : (if 0 > k then (0 : Int) else k).tmod (n : Int) = (leftN k n : Nat) := by
  unfold leftN
  have h0 : (if 0 > k then (0 : Int) else k) = ((max k 0).toNat : Int) := by split <;> omega
  rw [h0]
  exact (Int.ofNat_tmod _ _).symm

theorem c_pCrash0 {K n N0 : Nat} (hK : big K) (hn : 2 ≤ n) {d : Dk} {k : Nat} {hp : Hp} {nx : Nat} {S : Nat → Prop} (hI : d.Inv N0) (hN0 : N0 ≤ 2 ^ 21) (h : PRep hp nx k d S) (kv : AV) (keeps : List Int) (hkv : IR0 hp S nx kv keeps) (hkl : keeps.length ≤ 2 ^ 30) (names : Int) :
    Sp K n 21 [.ptr k 0 0, kv, .i .i64 names] hp nx fun r hp' nx' => PRep hp' nx' k (d.crash keeps names) (grw S nx nx') ∧ Frm S hp nx hp' nx' := by
  refine sp_cps fun Q hQ => ?_
  obtain ⟨n, rfl⟩ : ∃ m, n = m + 1 := ⟨n - 1, by omega⟩
  obtain ⟨hS, m, wv, ms, φ, bv, h⟩ := h
  have hwl := h.waslen
  have hwn := hI.nways
  have hg := h.top
  have hk := hS k h.topS
  -- which way
  obtain ⟨q, hq⟩ : ∃ q, q = leftN names d.ways.length := ⟨_, rfl⟩
  have hql : q < d.ways.length := by rw [hq]; exact leftN_lt _ (by omega)
  obtain ⟨w, hw⟩ : ∃ w, d.ways[q]? = some w := ⟨_, List.getElem?_eq_getElem hql⟩
  obtain ⟨m', hm'⟩ : ∃ m', (ms ++ [m])[q]? = some m' := ⟨_, List.getElem?_eq_getElem (by simp; omega)⟩
  have hwI := hI.way w (List.mem_of_getElem? hw)
  have hcr : d.crash keeps names = { d with ways := [w], left := 0, dead := false, files := crashF keeps w 0 d.files } := by
    simp only [Dk.crash, ← hq, hw, Option.getD_some]
  rw [hcr] at hQ
  have r1 : (if 0 > names then (0 : Int) else names).tmod ((ms.length : Int) + 1) = (q : Nat) := by
    rw [show (ms.length : Int) + 1 = (d.ways.length : Nat) by omega, leftN_int, hq]
  have r2 : IntKind.i64.wrap ((ms.length : Int) + 1) = (ms.length : Int) + 1 := wrap_i64 (by omega) (by omega)
  have r3 : ¬ (ms.length : Int) + 1 = 0 := by omega
  -- the disk that the loop works on
  obtain ⟨d0, hd0⟩ : ∃ d0 : Dk, d0 = { d with ways := [w], left := 0, dead := false } := ⟨_, rfl⟩
  have hpick : ∀ hp', (∀ j, lk hp' j = if j = k then some (0, .cells [.i .i64 (d.quota : Nat), .mp (some m'), .vs true 0 [], .i .i64 0]) else lk hp j) → PDk hp' k m' (.vs true 0 []) [] φ bv d0 S := fun hp' hh => by
    subst hd0
    exact h.pick hI.ne (fun _ h => h) hm' hw rfl rfl (by rw [hh, if_pos rfl]; simp [Dk.stopC]) fun j _ hj => by rw [hh, if_neg hj]
  have hI0 : d0.Inv N0 := by
    subst hd0
    refine ⟨hI.quota, hI.nfiles, by simp, by simp, fun w' hw' => ?_, hI.file, by simp⟩
    simp at hw'
    subst hw'
    exact hwI
  have hnow : d0.now = w := by subst hd0; simp [Dk.now]
  -- the loop
  have body : ∀ (hp3 : Hp) (nx3 na : Nat), (∀ j, lk hp3 j = if j = na ∧ w ≠ [] then some (0, .arr 1 (nameRows w)) else if j = k then some (0, .cells [.i .i64 (d.quota : Nat), .mp (some m'), .vs true 0 [], .i .i64 0]) else lk hp j) → nx ≤ na → na < nx3 →
      wp (loopK cfg (callA cfg K n) K 21 (loopOf Tryz.f21 0) { env := [(0, .ptr k 0 0), (1, kv), (7, .i .i64 0), (46, if w = [] then .vs true 0 [] else .rs na 0 0 w.length 1), (47, .i .i64 (w.length : Nat)), (48, .i .i64 0)], loc := [], hp := hp3, nx := nx3 })
        (blkQ 0 (retQ cfg Tryz.f21.results.toList Q)) := by
    intro hp3 nx3 na h3 hna hna3
    have hge : ∀ j, j < nx → lk hp3 j = if j = k then some (0, .cells [.i .i64 (d.quota : Nat), .mp (some m'), .vs true 0 [], .i .i64 0]) else lk hp j := fun j hj => by
      rw [h3 j, if_neg (by omega)]
    have hp3' : PDk hp3 k m' (.vs true 0 []) [] φ bv d0 S := by
      refine (hpick (up hp k (0, .cells [.i .i64 (d.quota : Nat), .mp (some m'), .vs true 0 [], .i .i64 0])) (fun j => by rw [lk_set])).top' (fun _ h => h) rfl (fun _ _ => rfl) ?_ fun j hj hne => ?_
      · rw [hge k hk, if_pos rfl]; subst hd0; simp [Dk.stopC]
      · rw [hge j (hS j hj), lk_set]
    have hkm : k ≠ m' := fun e => by
      obtain ⟨es, a, _⟩ := hp3'.now
      have := hp3'.top
      rw [e, a] at this
      cases this
    -- the end of the loop
    have fin : ∀ (H : Hp) (N : Nat) (df : Dk) (bvf : Nat → AV), nx3 ≤ N → PDk H k m' (.vs true 0 []) [] φ bvf df (fun j => S j ∨ (na + 1 ≤ j ∧ j < N)) → (∀ j, j < nx → ¬ S j → lk H j = lk hp j) → df = { d with ways := [w], left := 0, dead := false, files := crashF keeps w 0 d.files } →
        ∀ r nx', N ≤ nx' → Q r H nx' := fun H N df bvf hN hpd hfr hdf r nx' hx => by
      refine hQ _ _ _ ⟨⟨fun j hj => hj.elim (fun h => by have := hS j h; omega) fun h => h.2, m', .vs true 0 [], [], φ, bvf, ?_⟩, by omega, hfr⟩
      rw [← hdf]
      refine hpd.top' (fun j hj => hj.elim .inl fun h => .inr ⟨by omega, by omega⟩) rfl (fun _ _ => rfl) hpd.top fun _ _ _ => rfl
    by_cases hwn : w = []
    · subst hwn
      refine loop_wp (ι := Unit) (fun _ => { env := [(0, .ptr k 0 0), (1, kv), (7, .i .i64 0), (46, .vs true 0 []), (47, .i .i64 0), (48, .i .i64 0)], loc := [], hp := hp3, nx := nx3 }) (fun _ => 0) (fun _ => True) () rfl trivial (by unfold big at hK; omega) ?_
      intro Next _ _ _
      simp [loopOf, loopsIn, Tryz.f21]
      exact fin hp3 nx3 d0 bv (Nat.le_refl _) (hp3'.top' (fun _ h => .inl h) rfl (fun _ _ => rfl) hp3'.top fun _ _ _ => rfl) (fun j hj hn => by rw [hge j hj, if_neg (fun e => hn (by rw [e]; exact h.topS))]) (by subst hd0; simp [crashF]) _ _ (by omega)
    rw [if_neg hwn]
    have hw64 := hwI.1
    refine loop_wp (ι := Nat × Nat × Hp × Nat × Dk × (Nat → AV)) (fun x => { env := [(0, .ptr k 0 0), (1, kv), (7, .i .i64 ((if keeps = [] then 0 else x.2.2.2.1 : Nat) : Int)), (46, .rs na 0 0 w.length 1), (47, .i .i64 (w.length : Nat)), (48, .i .i64 (x.1 : Nat))], loc := [], hp := x.2.2.1, nx := x.2.1 }) (fun x => w.length - x.1)
      (fun x => x.1 ≤ w.length ∧ nx3 ≤ x.2.1 ∧ x.2.2.2.1 ≤ x.1 ∧ PDk x.2.2.1 k m' (.vs true 0 []) [] φ x.2.2.2.2.2 x.2.2.2.2.1 (fun j => S j ∨ (na + 1 ≤ j ∧ j < x.2.1)) ∧ lk x.2.2.1 na = some (0, .arr 1 (nameRows w)) ∧ (∀ j, j < nx → ¬ S j → lk x.2.2.1 j = lk hp j) ∧
        x.2.2.2.2.1 = { d0 with files := x.2.2.2.2.1.files } ∧ crashF keeps (w.drop x.1) x.2.2.2.1 x.2.2.2.2.1.files = crashF keeps w 0 d.files ∧ (∀ f ∈ x.2.2.2.2.1.files, f.b.length ≤ 2 ^ 24 ∧ f.fast ≤ f.b.length) ∧ x.2.2.2.2.1.files.length = d.files.length)
      (0, nx3, hp3, 0, d0, bv) (by simp) ⟨Nat.zero_le _, Nat.le_refl _, Nat.le_refl _, hp3'.top' (fun _ h => .inl h) rfl (fun _ _ => rfl) hp3'.top (fun _ _ _ => rfl), by rw [h3 na, if_pos ⟨rfl, hwn⟩], fun j hj hn => by rw [hge j hj, if_neg (fun e => hn (by rw [e]; exact h.topS))], rfl, by subst hd0; rfl, hI0.file, by subst hd0; rfl⟩ (by simp; unfold big at hK; omega) ?_
    rintro Next ⟨i, N, H, at_, df, bvf⟩ ⟨hi, hN, hat, hpd, hnames, hfr, hdf, hcf, hfl, hfn⟩ hnext
    simp only at hi hN hat hpd hnames hfr hdf hcf hfl hfn hnext ⊢
    by_cases hlt : i < w.length
    · have c1 : (i : Int) < w.length := by omega
      have c3 : IntKind.i64.wrap ((i : Int) + 1) = ((i + 1 : Nat) : Int) := by rw [wrap_i64 (by omega) (by omega)]; omega
      obtain ⟨e, he⟩ : ∃ e, w[i]? = some e := ⟨_, List.getElem?_eq_getElem hlt⟩
      have hmem := List.mem_of_getElem? he
      have hrow : (nameRows w)[i]? = some [.s (ba e.1)] := by simp [nameRows, he]
      have hways : df.ways = [w] := by rw [hdf, hd0]
      have hnowf : df.now = w := by simp [Dk.now, hways]
      obtain ⟨es, hm, hes⟩ := hpd.now
      rw [hnowf] at hes
      have hff := perm_find e.1 hes hwI.2.1
      rw [find_of hwI.2.1.nodup hmem] at hff
      obtain ⟨idx, hfi⟩ : ∃ idx, fI es e.1 0 = some (idx, φ e.2) := by
        cases hx : fI es e.1 0 with
        | none => rw [hx] at hff; cases hff
        | some y => rw [hx] at hff; simp at hff; exact ⟨y.1, by rw [← hff]⟩
      have hhas : df.Has e.2 := ⟨w, by rw [hways]; simp, e, hmem, rfl⟩
      obtain ⟨f, z1, z2, z3, z5, z6, z7⟩ := file_form hpd hhas
      have hl := hfl f (List.mem_of_getElem? z1)
      have htop := hpd.top
      have hdrop : w.drop i = e :: w.drop (i + 1) := by rw [List.drop_eq_getElem_cons hlt]; congr 1; exact (List.getElem?_eq_some_iff.1 he).2
      rw [hdrop] at hcf
      simp only [crashF, z1, Option.getD_some] at hcf
      have hSN : ∀ j, (S j ∨ (na + 1 ≤ j ∧ j < N)) → j < N ∧ j ≠ na := fun j hj => by
        rcases hj with hj | hj
        · have := hS j hj; omega
        · omega
      have hφ := hSN _ z3
      -- the next round
      have step : ∀ (H' : Hp) (N' : Nat) (v' : AV) (f' : Fl) (at' : Nat), f' = f.crash (if keeps = [] then 0 else keeps[at_ % keeps.length]?.getD 0) → at' = (if f.fast < f.b.length then at_ + 1 else at_) → N ≤ N' →
          lk H' (φ e.2) = some (0, .cells [v', .i .i64 (f'.fast : Nat)]) → SX 1 H' (fun j => S j ∨ (na + 1 ≤ j ∧ j < N')) v' (byteRows f'.b) → (∀ kb g n, v' = .rs kb g 0 n 1 → N ≤ kb ∨ ∃ g n, bvf e.2 = .rs kb g 0 n 1) →
          (∀ j, j < N → j ≠ φ e.2 → (∀ g n, bvf e.2 ≠ .rs j g 0 n 1) → lk H' j = lk H j) →
          Next { env := [(0, .ptr k 0 0), (1, kv), (7, .i .i64 ((if keeps = [] then 0 else at' : Nat) : Int)), (46, .rs na 0 0 w.length 1), (47, .i .i64 (w.length : Nat)), (48, .i .i64 ((i + 1 : Nat) : Int))], loc := [], hp := H', nx := N' } := by
        intro H' N' v' f' at' q1 q2 q3 q4 q5 q6 q7
        have hbS : ∀ j g n, bvf e.2 = .rs j g 0 n 1 → (S j ∨ (na + 1 ≤ j ∧ j < N)) := fun j g n e2 => by
          rcases z7 with ⟨_, a⟩ | ⟨kb, g', a, b, _, _, c⟩
          · rw [a] at e2; cases e2
          · rw [a] at e2; cases e2; exact c
        have hkn : ∀ g n, bvf e.2 ≠ .rs k g 0 n 1 := fun g n e2 => by
          rcases z7 with ⟨_, a⟩ | ⟨kb, g', a, b, _, c, _⟩
          · rw [a] at e2; cases e2
          · rw [a] at e2; cases e2; exact c rfl
        refine hnext (i + 1, N', H', at', { df with files := df.files.set e.2 f' }, fun j => if j = e.2 then v' else bvf j) (by simp only; omega) ⟨by simp only; omega, by simp only; omega, by simp only [q2]; split <;> omega, ?_, ?_, fun j hj hn => ?_, ?_, ?_, ?_, by simp only [List.length_set]; exact hfn⟩
        · refine hpd.turn (f' := f') hhas (fun j hj => hj.elim .inl fun h => .inr ⟨h.1, Nat.lt_of_lt_of_le h.2 q3⟩) rfl rfl rfl ?_ q4 q5 (fun kb g n e2 => ?_) (fun j hj h1 h2 h3 => q7 j (hSN j hj).1 h2 h3)
          · rw [q7 k (by have := hS k h.topS; omega) (fun e2 => z5 e2.symm) hkn, htop]; rfl
          · rcases q6 kb g n e2 with h1 | h1
            · exact .inl fun hh => by have := (hSN _ hh).1; omega
            · exact .inr h1
        · rw [q7 na (by omega) (fun e2 => hφ.2 e2.symm) (fun g n e2 => (hSN _ (hbS _ _ _ e2)).2 rfl)]
          exact hnames
        · rw [q7 j (by omega) (fun e2 => ?_) (fun g n e2 => ?_)]
          · exact hfr j hj hn
          · rw [← e2] at z3; rcases z3 with h1 | h1
            · exact hn h1
            · omega
          · rcases hbS _ _ _ e2 with h1 | h1
            · exact hn h1
            · omega
        · simp only; rw [hdf]
        · simp only [q1, q2]; exact hcf
        · intro x hx
          simp only at hx
          rcases List.mem_or_eq_of_mem_set hx with hx | hx
          · exact hfl x hx
          · rw [hx, q1]
            unfold Fl.crash
            split
            · simp; omega
            · simp; omega
      obtain ⟨o, ho⟩ : ∃ o, o = f.b.length - f.fast := ⟨_, rfl⟩
      have w4 : IntKind.i64.wrap ((f.b.length : Int) - (f.fast : Int)) = (o : Nat) := by rw [wrap_i64 (by omega) (by omega)]; omega
      have w6 : IntKind.i64.wrap ((o : Int) + 1) = (o : Int) + 1 := wrap_i64 (by omega) (by omega)
      have w7 : ¬ (o : Int) + 1 = 0 := by omega
      have fN : ∀ x, x < N → ∀ c, ¬ x = N + c := fun x hx c => by omega
      have fN' : ∀ x, x < N → ∀ c, ¬ N + c = x := fun x hx c => by omega
      have fφ := fN _ hφ.1
      by_cases hop : f.fast < f.b.length
      · -- some of its bytes do not stand fast
        obtain ⟨kb, g, fa, fb, b2, b3, b4⟩ : ∃ kb g, bvf e.2 = .rs kb g 0 f.b.length 1 ∧ lk H kb = some (g, .arr 1 (byteRows f.b)) ∧ kb ≠ φ e.2 ∧ kb ≠ k ∧ (S kb ∨ (na + 1 ≤ kb ∧ kb < N)) := by
          rcases z7 with ⟨a, _⟩ | h
          · rw [a] at hop; simp at hop
          · exact h
        have hkb := hSN _ b4
        rw [fa] at z2
        have co : 0 < o := by omega
        have co2 : ¬ o = 0 := by omega
        have hn0 : keeps.length = 0 ↔ keeps = [] := by simp
        -- how many stay
        have tail : ∀ (kk : Int), kk = (if keeps = [] then 0 else keeps[at_ % keeps.length]?.getD 0) → ∀ (b' : Bs), b' = f.b.take (f.fast + leftN kk (o + 1)) →
            (if 0 > kk then (0 : Int) else kk).tmod ((o : Int) + 1) = (leftN kk (o + 1) : Nat) ∧ leftN kk (o + 1) ≤ o ∧ f.crash kk = ⟨b', b'.length⟩ ∧ b'.length = f.fast + leftN kk (o + 1) := fun kk hkk b' hb' => by
          have h1 := leftN_lt kk (show 0 < o + 1 by omega)
          refine ⟨by rw [show (o : Int) + 1 = ((o + 1 : Nat) : Int) by omega, leftN_int], by omega, ?_, by rw [hb']; simp; omega⟩
          unfold Fl.crash
          rw [if_pos hop, ← ho, ← hb']
        by_cases hke : keeps = []
        · obtain ⟨t1, t2, t3, t4⟩ := tail 0 (by rw [if_pos hke]) _ rfl
          have hl0 : leftN 0 (o + 1) = 0 := by unfold leftN; exact Nat.zero_mod _
          rw [hl0] at t1 t3 t4
          simp only [Nat.add_zero] at t3 t4
          have sc := f_sclone (K := K) (n := n) (by omega) (f.b.take f.fast) (by simp; omega)
          have stp := fun H' N' v' => step H' N' v' ⟨f.b.take f.fast, (f.b.take f.fast).length⟩ (at_ + 1) (by rw [if_pos hke, ← t3]) (by rw [if_pos hop])
          simp only [if_pos hke] at stp
          have w8 : IntKind.i64.wrap (f.fast : Int) = (f.fast : Int) := wrap_i64 (by omega) (by omega)
          have w9 : ((0 : Int)).tmod ((o : Int) + 1) = 0 := by simp
          have hkv0 : (∃ ws, kv = .vs true ws []) ∨ kv = .vs false 1 [] ∨ ∃ ka ga, kv = .rs ka ga 0 0 1 := by
            rcases hkv with (⟨z, a, _⟩ | ⟨ka, ga, a, _⟩) | ⟨_, ws, a⟩
            · rw [hke] at a; cases z
              · exact .inr (.inl a)
              · exact .inl ⟨_, a⟩
            · rw [hke] at a; exact .inr (.inr ⟨ka, ga, a⟩)
            · exact .inl ⟨ws, a⟩
          have hff : f.fast ≤ f.b.length := by omega
          have hmn : min f.fast f.b.length = f.fast := Nat.min_eq_left hff
          have hH1 : lk H k = _ := htop
          rcases hkv0 with ⟨ws, rfl⟩ | rfl | ⟨ka, ga, rfl⟩
          all_goals
            simp [loopOf, loopsIn, Tryz.f21, c1, c3, hnames, hrow, htop, hm, lookup_enc, hfi, keyD, z2, w4, co, co2, w6, w7, w8, w9, fb, hff, hmn, take_bytes, frz_bytes, sc, Nat.add_assoc, lk_set, fφ, hke]
            refine ⟨⟨by kernel_rfl, by kernel_rfl⟩, ⟨by kernel_rfl, ?_⟩, ?_⟩
            · simp [dynOk, pairsOk, befOf, Region.binds, Eff.apart, Eff.clear, Eff.wkeys, Ref.key, AV.refs0, List.range, List.range.loop, fN' _ hφ.1, fφ, fN kb hkb.1, fN' kb hkb.1, b2, b2.symm]
            · exact stp _ _ (.rs (N + 50) (gz (f.b.take f.fast)) 0 f.fast 1) (by omega) (by simp [lk_set, hmn]) (.inr ⟨N + 50, gz (f.b.take f.fast), by simp [hmn], by simp [lk_set, fN' _ hφ.1], .inr ⟨by omega, by omega⟩⟩) (fun kb g n e2 => by cases e2; exact .inl (by omega)) (fun j hj h1 h2 => by simp [lk_set, h1, fN j hj])
        · -- by the script
          have hkn : 0 < keeps.length := by
            cases keeps with
            | nil => exact absurd rfl hke
            | cons _ _ => simp
          have hml : at_ % keeps.length < keeps.length := Nat.mod_lt _ hkn
          obtain ⟨kk, hkk⟩ : ∃ kk, keeps[at_ % keeps.length]? = some kk := ⟨_, List.getElem?_eq_getElem hml⟩
          have hkrow : (intRows keeps)[at_ % keeps.length]? = some [.i .i64 kk] := by simp [intRows, hkk]
          obtain ⟨t1, t2, t3, t4⟩ := tail kk (by rw [if_neg hke, hkk]; rfl) _ rfl
          generalize hr : leftN kk (o + 1) = r at t1 t2 t3 t4
          have sc := f_sclone (K := K) (n := n) (by omega) (f.b.take (f.fast + r)) (by simp; omega)
          have stp := fun H' N' v' => step H' N' v' ⟨f.b.take (f.fast + r), (f.b.take (f.fast + r)).length⟩ (at_ + 1) (by rw [if_neg hke, hkk]; exact t3.symm) (by rw [if_pos hop])
          simp only [if_neg hke] at stp
          have w8 : IntKind.i64.wrap ((f.fast : Int) + (r : Int)) = (f.fast : Int) + (r : Int) := wrap_i64 (by omega) (by omega)
          have w10 : ((f.fast : Int) + (r : Int)).toNat = f.fast + r := by omega
          have w11 : 0 ≤ (f.fast : Int) + (r : Int) := by omega
          have w12 : IntKind.i64.wrap ((at_ : Int) + 1) = (at_ : Int) + 1 := wrap_i64 (by omega) (by omega)
          have w13 : (at_ : Int).tmod (keeps.length : Int) = (at_ : Int) % (keeps.length : Int) := Int.tmod_eq_emod_of_nonneg (by omega)
          have w14 : ¬ (keeps.length : Int) = 0 := by omega
          have w15 : (0 : Int) < (keeps.length : Int) := by omega
          have w16 : ¬ keeps.length = 0 := by omega
          have w17 : (0 : Int) ≤ (at_ : Int) % (keeps.length : Int) := Int.emod_nonneg _ w14
          have w18 : ((at_ : Int) % (keeps.length : Int)).toNat = at_ % keeps.length := by rw [← Int.natCast_emod]; rfl
          have w19 : (at_ : Int) % (keeps.length : Int) < (keeps.length : Int) := Int.emod_lt_of_pos _ w15
          have hff : f.fast + r ≤ f.b.length := by omega
          have hmn : min (f.fast + r) f.b.length = f.fast + r := Nat.min_eq_left hff
          have hkv0 : kv = .vs false 1 (intRows keeps) ∨ ∃ ka ga, kv = .rs ka ga 0 keeps.length 1 ∧ lk H ka = some (ga, .arr 1 (intRows keeps)) := by
            rcases hkv with (⟨z, a, hz⟩ | ⟨ka, ga, a, c, c2, c3⟩) | ⟨c, _⟩
            · cases z with
              | true => exact absurd (hz rfl) hke
              | false => exact .inl a
            · exact .inr ⟨ka, ga, a, by rw [hfr ka c3 c2]; exact c⟩
            · exact absurd c hke
          rcases hkv0 with rfl | ⟨ka, ga, rfl, hka⟩
          · simp [loopOf, loopsIn, Tryz.f21, c1, c3, hnames, hrow, htop, hm, lookup_enc, hfi, keyD, z2, w4, co, co2, w6, w7, w8, w10, w11, w12, w13, w14, w15, w16, w17, w18, w19, hkrow, mmA, t1, fb, hff, hmn, take_bytes, frz_bytes, sc, Nat.add_assoc, lk_set, fφ, hke, hkn]
            refine ⟨⟨by kernel_rfl, by kernel_rfl⟩, ⟨by kernel_rfl, ?_⟩, ?_⟩
            · simp [dynOk, pairsOk, befOf, Region.binds, Eff.apart, Eff.clear, Eff.wkeys, Ref.key, AV.refs0, List.range, List.range.loop, fN' _ hφ.1, fφ, fN kb hkb.1, fN' kb hkb.1, b2, b2.symm]
            · exact stp _ _ (.rs (N + 62) (gz (f.b.take (f.fast + r))) 0 (f.fast + r) 1) (by omega) (by simp [lk_set, hmn]) (.inr ⟨N + 62, gz (f.b.take (f.fast + r)), by simp [hmn], by simp [lk_set, fN' _ hφ.1], .inr ⟨by omega, by omega⟩⟩) (fun kb g n e2 => by cases e2; exact .inl (by omega)) (fun j hj h1 h2 => by simp [lk_set, h1, fN j hj])
          · simp [loopOf, loopsIn, Tryz.f21, c1, c3, hnames, hrow, htop, hm, lookup_enc, hfi, keyD, z2, w4, co, co2, w6, w7, w8, w10, w11, w12, w13, w14, w15, w16, w17, w18, w19, hkrow, hka, mmA, t1, fb, hff, hmn, take_bytes, frz_bytes, sc, Nat.add_assoc, lk_set, fφ, hke, hkn]
            refine ⟨⟨by kernel_rfl, by kernel_rfl⟩, ⟨by kernel_rfl, ?_⟩, ?_⟩
            · simp [dynOk, pairsOk, befOf, Region.binds, Eff.apart, Eff.clear, Eff.wkeys, Ref.key, AV.refs0, List.range, List.range.loop, fN' _ hφ.1, fφ, fN kb hkb.1, fN' kb hkb.1, b2, b2.symm]
            · exact stp _ _ (.rs (N + 62) (gz (f.b.take (f.fast + r))) 0 (f.fast + r) 1) (by omega) (by simp [lk_set, hmn]) (.inr ⟨N + 62, gz (f.b.take (f.fast + r)), by simp [hmn], by simp [lk_set, fN' _ hφ.1], .inr ⟨by omega, by omega⟩⟩) (fun kb g n e2 => by cases e2; exact .inl (by omega)) (fun j hj h1 h2 => by simp [lk_set, h1, fN j hj])
      · -- all of it stands fast
        have ho0 : o = 0 := by omega
        have hcrash : ∀ kk, f.crash kk = ⟨f.b, f.b.length⟩ := fun kk => by unfold Fl.crash; rw [if_neg hop]
        have stp := fun H' N' v' => step H' N' v' ⟨f.b, f.b.length⟩ at_ (by rw [hcrash]) (by rw [if_neg hop])
        rcases z7 with ⟨fa, fb⟩ | ⟨kb, g, fa, fb, b2, b3, b4⟩
        · rw [fb] at z2
          rw [ho0, fa] at w4
          simp at w4
          simp [loopOf, loopsIn, Tryz.f21, c1, c3, hnames, hrow, htop, hm, lookup_enc, hfi, keyD, z2, w4, Nat.add_assoc, lk_set]
          refine ⟨⟨by kernel_rfl, by kernel_rfl⟩, ?_⟩
          exact stp _ _ (.vs true 0 []) (by omega) (by simp [lk_set, fa]) (.inl ⟨by rw [fa]; rfl, rfl⟩) (fun kb g n e2 => by cases e2) (fun j hj h1 h2 => by simp [lk_set, h1])
        · rw [fa] at z2
          rw [ho0] at w4
          have hkb := hSN _ b4
          have hSb : ∀ j, (S j ∨ (na + 1 ≤ j ∧ j < N)) → ∀ c, S j ∨ (na + 1 ≤ j ∧ j < N + c) := fun j hj c => hj.elim .inl fun h => .inr ⟨h.1, by omega⟩
          simp [loopOf, loopsIn, Tryz.f21, c1, c3, hnames, hrow, htop, hm, lookup_enc, hfi, keyD, z2, w4, Nat.add_assoc, lk_set]
          refine ⟨⟨by kernel_rfl, by kernel_rfl⟩, ?_⟩
          exact stp _ _ (.rs kb g 0 f.b.length 1) (by omega) (by simp [lk_set]) (.inr ⟨kb, g, by simp, by simp [lk_set, b2, fb], hSb kb b4 _⟩) (fun kb2 g2 n2 e2 => .inr ⟨g, _, by cases e2; exact fa⟩) (fun j hj h1 h2 => by simp [lk_set, h1])
    · have hie : i = w.length := by omega
      have c1 : ¬ (i : Int) < w.length := by omega
      simp [loopOf, loopsIn, Tryz.f21, c1]
      rw [hie, List.drop_length] at hcf
      simp only [crashF] at hcf
      refine fin H N df bvf hN hpd hfr ?_ _ _ (by omega)
      rw [hdf, hd0, hcf]
  -- the names
  obtain ⟨P, hP⟩ : ∃ P : Hp → Prop, P = fun H => ∀ j, lk H j = if j = k then some (0, .cells [.i .i64 (d.quota : Nat), .mp (some m'), .vs true 0 [], .i .i64 0]) else lk hp j := ⟨_, rfl⟩
  have hP1 : ∀ a b, P (up (up (up hp k a) k b) k (0, .cells [.i .i64 (d.quota : Nat), .mp (some m'), .vs true 0 [], .i .i64 0])) := fun a b => by rw [hP]; intro j; simp only [lk_set]; split <;> rfl
  have hP2 : ∀ a, P (up (up hp k a) k (0, .cells [.i .i64 (d.quota : Nat), .mp (some m'), .vs true 0 [], .i .i64 0])) := fun a => by rw [hP]; intro j; simp only [lk_set]; split <;> rfl
  have el : ∀ H N, P H → callA cfg K n 49 [.ptr k 0 0] H N = some (if w = [] then (.vs true 0 [], H, N) else (.rs N 0 0 w.length 1, up H N (0, .arr 1 (nameRows w)), N + 1)) := fun H N hH => by
    rw [hP] at hH
    have := f_list (K := K) (n := n) (by omega) hI0 (hpick H hH) N
    rw [hnow] at this
    exact this
  have hbody : ∀ (H : Hp) (na nx3 : Nat), P H → nx ≤ na → na < nx3 →
      wp (loopK cfg (callA cfg K n) K 21 (loopOf Tryz.f21 0) { env := [(0, .ptr k 0 0), (1, kv), (7, .i .i64 0), (46, if w = [] then .vs true 0 [] else .rs na 0 0 w.length 1), (47, .i .i64 (w.length : Nat)), (48, .i .i64 0)], loc := [], hp := if w = [] then H else up H na (0, .arr 1 (nameRows w)), nx := nx3 })
        (blkQ 0 (retQ cfg Tryz.f21.results.toList Q)) := fun H na nx3 hH h1 h2 => by
    rw [hP] at hH
    refine body _ _ na (fun j => ?_) h1 h2
    by_cases hwn : w = []
    · simp [hwn, hH]
    · simp only [if_neg hwn, lk_set, hH]
      simp [hwn]
  have hbody0 : w = [] → ∀ (H : Hp) (nx3 : Nat), P H → nx < nx3 →
      wp (loopK cfg (callA cfg K n) K 21 (loopOf Tryz.f21 0) { env := [(0, .ptr k 0 0), (1, kv), (7, .i .i64 0), (46, .vs true 0 []), (47, .i .i64 0), (48, .i .i64 0)], loc := [], hp := H, nx := nx3 })
        (blkQ 0 (retQ cfg Tryz.f21.results.toList Q)) := fun hwn H nx3 hH h2 => by
    have := hbody H nx nx3 hH (Nat.le_refl _) h2
    simp only [hwn, if_true] at this
    exact this
  have hbody1 : w ≠ [] → ∀ (H : Hp) (na nx3 : Nat), P H → nx ≤ na → na < nx3 →
      wp (loopK cfg (callA cfg K n) K 21 (loopOf Tryz.f21 0) { env := [(0, .ptr k 0 0), (1, kv), (7, .i .i64 0), (46, .rs na 0 0 w.length 1), (47, .i .i64 (w.length : Nat)), (48, .i .i64 0)], loc := [], hp := up H na (0, .arr 1 (nameRows w)), nx := nx3 })
        (blkQ 0 (retQ cfg Tryz.f21.results.toList Q)) := fun hwn H na nx3 hH h1 h2 => by
    have := hbody H na nx3 hH h1 h2
    simp only [if_neg hwn] at this
    exact this
  refine sp_of rfl (run_wp Tryz.func21 rfl (by simp [Tryz.f21]) ?_)
  by_cases hqm : q < ms.length
  · have c1 : (q : Int) < ms.length := by omega
    obtain ⟨kw, g, hwv, hwr, hwS⟩ : ∃ kw g, wv = .rs kw g 0 ms.length 1 ∧ lk hp kw = some (g, .arr 1 (mrows ms)) ∧ S kw := by
      rcases h.was with ⟨a, _⟩ | ⟨kw, g, a, b, c⟩
      · have : ms = [] := by simpa using a
        rw [this] at hqm; simp at hqm
      · exact ⟨kw, g, by simpa using a, b, c⟩
    rw [hwv] at hg
    rw [List.getElem?_append_left hqm] at hm'
    have hrow : (mrows ms)[q]? = some [.mp (some m')] := by simp [mrows, hm']
    by_cases hwn : w = []
    · simp [hg, r1, r2, r3, mmA, c1, hwr, hrow, Nat.add_assoc, lk_set, el, hP1, hwn]
      exact hbody0 hwn _ _ (hP1 _ _) (by omega)
    · simp [hg, r1, r2, r3, mmA, c1, hwr, hrow, Nat.add_assoc, lk_set, el, hP1, hwn]
      exact hbody1 hwn _ _ _ (hP1 _ _) (by omega) (by omega)
  · have hqe : q = ms.length := by omega
    have c1 : ¬ (q : Int) < ms.length := by omega
    have hmm : m' = m := by
      rw [hqe] at hm'
      simpa using hm'.symm
    subst hmm
    have r1' : (if 0 > names then (0 : Int) else names).tmod ((ms.length : Int) + 1) = (ms.length : Nat) := by rw [r1, hqe]
    rcases h.was with ⟨a, hwv⟩ | ⟨kw, g, hwv, hwr, hwS⟩
    · have hms : ms = [] := by simpa using a
      rw [hwv] at hg
      have r1'' : (if 0 > names then (0 : Int) else names).tmod 1 = 0 := by rw [hms] at r1'; simpa using r1'
      have wr1 : IntKind.i64.wrap 1 = 1 := wrap1
      by_cases hwn : w = []
      · simp [hg, r1'', wr1, mmA, Nat.add_assoc, lk_set, el, hP2, hwn]
        exact hbody0 hwn _ _ (hP2 _) (by omega)
      · simp [hg, r1'', wr1, mmA, Nat.add_assoc, lk_set, el, hP2, hwn]
        exact hbody1 hwn _ _ _ (hP2 _) (by omega) (by omega)
    · have hwv' : wv = .rs kw g 0 ms.length 1 := by simpa [mrows] using hwv
      rw [hwv'] at hg
      by_cases hwn : w = []
      · simp [hg, r1', r2, r3, mmA, Nat.add_assoc, lk_set, el, hP2, hwn]
        exact hbody0 hwn _ _ (hP2 _) (by omega)
      · simp [hg, r1', r2, r3, mmA, Nat.add_assoc, lk_set, el, hP2, hwn]
        exact hbody1 hwn _ _ _ (hP2 _) (by omega) (by omega)
theorem c_pCrash {K n N0 : Nat} (hK : big K) (hn : 2 ≤ n) {d : Dk} {k : Nat} {hp : Hp} {nx : Nat} {S : Nat → Prop} (hI : d.Inv N0) (hN0 : N0 ≤ 2 ^ 21) (h : PRep hp nx k d S) (kv : AV) (keeps : List Int) (hkv : IR hp S nx kv keeps) (hkl : keeps.length ≤ 2 ^ 30) (names : Int) :
    Sp K n 21 [.ptr k 0 0, kv, .i .i64 names] hp nx fun r hp' nx' => PRep hp' nx' k (d.crash keeps names) (grw S nx nx') ∧ Frm S hp nx hp' nx' :=
  c_pCrash0 hK hn hI hN0 h kv keeps (.inl hkv) hkl names
end Ab
end Go.Proofs.YtmbbnoipoifhhaaGreatDoor
