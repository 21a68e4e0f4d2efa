/-
  DERIVED. A log on a disk that does not stop: what an append may answer; never more in use than there is room for. In plain Lean.
  Conditions: none of a program's.
-/
import Derived.Test.YtmbbnoipoifhhaaGreatDoorVE
set_option linter.all false
set_option maxHeartbeats 4000000
namespace Go.Proofs.YtmbbnoipoifhhaaGreatDoor
namespace Ab
set_option linter.all false
set_option maxRecDepth 100000

structure Uq (q : Nat) (d : Dk) : Prop where
  calm : Calm d
  used : d.used ≤ q
  quota : d.quota = q
  nd : (d.now.map Prod.snd).Nodup
  lt : ∀ e ∈ d.now, e.2 < d.files.length

theorem bump_sum (f : Nat → Nat) (i c : Nat) : ∀ l : List Nat, l.Nodup → (l.map fun j => if j = i then f j + c else f j).sum ≤ (l.map f).sum + c
  | [], _ => Nat.zero_le _
  | j :: l, h => by
    rw [List.nodup_cons] at h
    simp only [List.map_cons, List.sum_cons]
    by_cases hj : j = i
    · subst hj
      have : (l.map fun k => if k = j then f k + c else f k) = l.map f := List.map_congr_left fun k hk => if_neg fun (e : k = j) => h.1 (e ▸ hk)
      rw [if_pos rfl, this]
      omega
    · rw [if_neg hj]
      have := bump_sum f i c l h.2
      omega
theorem sums_le {f g : Nat → Nat} : ∀ {l : List Nat}, (∀ j ∈ l, f j ≤ g j) → (l.map f).sum ≤ (l.map g).sum
  | [], _ => Nat.le_refl _
  | j :: l, h => by
    simp only [List.map_cons, List.sum_cons]
    have h1 := h j (List.mem_cons_self ..)
    have h2 := sums_le (l := l) fun k hk => h k (List.mem_cons_of_mem _ hk)
    omega
theorem sums_sub {f : Nat → Nat} {l l' : List Nat} (h : l.Sublist l') : (l.map f).sum ≤ (l'.map f).sum := by
  induction h with
  | slnil => exact Nat.le_refl _
  | cons a _ ih => simp only [List.map_cons, List.sum_cons]; omega
  | cons_cons a _ ih => simp only [List.map_cons, List.sum_cons]; omega
theorem used_eq (d : Dk) : d.used = ((d.now.map Prod.snd).map fun j => (d.file j).b.length).sum := by
  unfold Dk.used
  rw [List.map_map]
  rfl
theorem calm_stop1 {d : Dk} (h : Calm d) : d.stop1 = d := by simp [Dk.stop1, h.1, h.2]
theorem setF_any (d : Dk) (i : Nat) (x : Fl) (j : Nat) : (d.setF i x).file j = if j = i ∧ i < d.files.length then x else d.file j := by
  unfold Dk.file Dk.setF
  simp only [List.getElem?_set]
  by_cases h : i = j
  · subst h
    by_cases h2 : i < d.files.length
    · simp [h2]
    · simp [h2]
  · rw [if_neg h, if_neg fun e => h e.1.symm]

theorem Uq.at {q : Nat} {d : Dk} {s : Bs} {f : Nat → Int × Dk} (h : Uq q d) (hf : ∀ i, Uq q (f i).2) : Uq q (d.at s f).2 := by
  unfold Dk.at
  split
  · exact h
  · split
    · exact h
    · exact hf _
theorem Uq.goes {q : Nat} {d : Dk} {f : Dk → Dk} (h : Uq q d) (hf : Uq q (f d)) : Uq q (d.goes f).2 := by
  rw [goes_calm h.calm.1 h.calm.2]
  exact hf
theorem Uq.sync {q : Nat} {d : Dk} (h : Uq q d) (s : Bs) : Uq q (d.sync s).2 := h.at fun i => h.goes (by
  refine ⟨h.calm, ?_, h.quota, h.nd, fun e he => by simpa [Dk.setF] using h.lt e he⟩
  refine Nat.le_trans (Nat.le_of_eq ?_) h.used
  rw [used_eq, used_eq]
  congr 1
  refine List.map_congr_left fun j _ => ?_
  rw [setF_any]
  split
  · rename_i e; rw [e.1]
  · rfl)
theorem Uq.remove {q : Nat} {d : Dk} (h : Uq q d) (s : Bs) : Uq q (d.remove s).2 := h.at fun i => h.goes (by
  have hsub : ((delW d.now s).map Prod.snd).Sublist (d.now.map Prod.snd) := List.filter_sublist.map _
  refine ⟨h.calm, ?_, h.quota, ?_, ?_⟩
  · refine Nat.le_trans ?_ h.used
    rw [used_eq, used_eq, with_nowW]
    exact sums_sub hsub
  · rw [with_nowW]
    exact h.nd.sublist hsub
  · rw [with_nowW]
    exact fun e he => h.lt e (List.mem_filter.1 he).1)
theorem Uq.create {q : Nat} {d : Dk} (h : Uq q d) (s : Bs) : Uq q (d.create s).2 := by
  unfold Dk.create
  split
  · exact h
  split
  · exact h
  split
  · exact h
  refine h.goes ?_
  have hfile : ∀ j, ((Dk.with { d with files := d.files ++ [⟨[], 0⟩] } (insW d.now s d.files.length)).file j).b.length ≤ (d.file j).b.length := fun j => by
    show (((d.files ++ [(⟨[], 0⟩ : Fl)])[j]?.getD ⟨[], 0⟩).b.length) ≤ _
    unfold Dk.file
    by_cases hj : j < d.files.length
    · rw [List.getElem?_append_left hj]
      exact Nat.le_refl _
    · rw [List.getElem?_append_right (by omega)]
      cases hk : j - d.files.length with
      | zero => simp
      | succ k => simp
  have hins : (insW d.now s d.files.length).map Prod.snd = (d.now.takeWhile fun e => ltB e.1 s).map Prod.snd ++ d.files.length :: ((d.now.dropWhile fun e => ltB e.1 s).filter fun e => e.1 != s).map Prod.snd := by
    unfold insW
    rw [List.map_append, List.map_cons]
  have hsub : ((d.now.takeWhile fun e => ltB e.1 s).map Prod.snd ++ ((d.now.dropWhile fun e => ltB e.1 s).filter fun e => e.1 != s).map Prod.snd).Sublist (d.now.map Prod.snd) := by
    rw [← List.map_append]
    refine List.Sublist.map _ ?_
    conv => rhs; rw [← List.takeWhile_append_dropWhile (p := fun e : Bs × Nat => ltB e.1 s) (l := d.now)]
    exact List.Sublist.append (List.Sublist.refl _) List.filter_sublist
  have hout : (d.file d.files.length).b.length = 0 := by
    unfold Dk.file
    rw [List.getElem?_eq_none (Nat.le_refl _)]
    rfl
  refine ⟨h.calm, ?_, h.quota, ?_, ?_⟩
  · refine Nat.le_trans ?_ h.used
    rw [used_eq, used_eq, with_nowW, hins]
    refine Nat.le_trans (sums_le fun j _ => hfile j) ?_
    have h1 := sums_sub (f := fun j => (d.file j).b.length) hsub
    rw [List.map_append, List.sum_append] at h1 ⊢
    rw [List.map_cons, List.sum_cons, hout]
    omega
  · rw [with_nowW, hins]
    have h1 := h.nd.sublist hsub
    rw [List.nodup_append] at h1 ⊢
    have hmem : ∀ j ∈ ((d.now.takeWhile fun e => ltB e.1 s).map Prod.snd ++ ((d.now.dropWhile fun e => ltB e.1 s).filter fun e => e.1 != s).map Prod.snd), j < d.files.length := fun j hj => by
      obtain ⟨e, he, rfl⟩ := List.mem_map.1 (hsub.subset hj)
      exact h.lt e he
    refine ⟨h1.1, List.nodup_cons.2 ⟨fun e => absurd (hmem _ (List.mem_append_right _ e)) (by omega), h1.2.1⟩, fun a ha b hb => ?_⟩
    rcases List.mem_cons.1 hb with rfl | hb
    · exact fun e => absurd (hmem a (List.mem_append_left _ ha)) (by omega)
    · exact h1.2.2 a ha b hb
  · rw [with_nowW]
    intro e he
    show e.2 < (d.files ++ [(⟨[], 0⟩ : Fl)]).length
    rw [List.length_append, List.length_singleton]
    rcases insW_mem he with he | he
    · subst he
      simp
    · have := h.lt e he
      omega
theorem Uq.append {q : Nat} {d : Dk} (h : Uq q d) (s b : Bs) : Uq q (d.append s b).2 := h.at fun i => by
  split
  · exact h
  rename_i hq
  rw [if_neg (by rw [h.calm.1]; simp), if_neg (by rw [h.calm.2]; simp), calm_stop1 h.calm]
  refine ⟨h.calm, ?_, h.quota, h.nd, fun e he => by simpa [Dk.put, Dk.setF] using h.lt e he⟩
  have h1 : (d.put i b).used ≤ d.used + b.length := by
    rw [used_eq, used_eq]
    refine Nat.le_trans (sums_le (g := fun j => if j = i then (d.file j).b.length + b.length else (d.file j).b.length) fun j _ => ?_) (bump_sum (fun j => (d.file j).b.length) i b.length _ h.nd)
    unfold Dk.put
    rw [setF_any]
    by_cases hj : j = i
    · subst hj
      rw [if_pos rfl]
      split
      · simp
      · omega
    · rw [if_neg hj, if_neg fun e => hj e.1]
      exact Nat.le_refl _
  show (d.put i b).used ≤ q
  have := h.quota
  omega
theorem Uq.syncLast {q : Nat} {d : Dk} (h : Uq q d) (l : Lg) : Uq q (syncLast l d).2 := by
  unfold Ab.syncLast
  split
  · exact h.sync _
  · exact h
theorem Uq.begins {q : Nat} {d : Dk} (h : Uq q d) (l : Lg) (no : Nat) (b : Bs) : Uq q (l.begins d no b).2.1 := by
  unfold Lg.begins
  repeat' split
  all_goals first | exact h.syncLast l | exact (h.syncLast l).create _ | exact (((h.syncLast l).create _).append _ _).remove _ | exact ((h.syncLast l).create _).append _ _
theorem Uq.lappend {q : Nat} {d : Dk} (h : Uq q d) (l : Lg) (b : Bs) : Uq q (l.append d b).2.2.1 := by
  unfold Lg.append
  repeat' split
  all_goals first | exact h | exact h.append _ _ | exact h.begins l _ _
theorem Uq.new (q : Nat) : Uq q (newDk q) := ⟨⟨rfl, rfl⟩, by simp [Dk.used, newDk, Dk.now], rfl, by simp [newDk, Dk.now], by simp [newDk, Dk.now]⟩

/-- What an append on such a disk answers. -/
theorem append_calm {d : Dk} {s b : Bs} {i : Nat} (hn : nameOk s = true) (hf : findW d.now s = some i) (h : Calm d) : (d.append s b).1 = 0 ∨ (d.append s b).1 = 42 := by
  unfold Dk.append
  rw [at_find hn hf]
  split
  · exact .inr rfl
  · rw [if_neg (by rw [h.1]; simp), if_neg (by rw [h.2]; simp)]
    exact .inl rfl
theorem sync_calm {d : Dk} {s : Bs} {i : Nat} (hn : nameOk s = true) (hf : findW d.now s = some i) (h : Calm d) : (d.sync s).1 = 0 := by
  unfold Dk.sync
  rw [at_find hn hf, goes_calm h.1 h.2]
theorem full_append {n : Nat} {all : List Bs} {D : Nat} {l : Lg} {d : Dk} (h : LInv n all D l d) (hn : n + 3 < W64) (hc : Calm d) {b : Bs} (hb : b.length ≤ maxM) : (l.append d b).1 = 0 ∨ (l.append d b).1 = 42 ∨ (l.append d b).1 = 43 := by
  have hlast := h.tale.last
  have hfew := h.few
  have key : (l.begins d (l.last + 1) b).1 = 0 ∨ (l.begins d (l.last + 1) b).1 = 42 ∨ (l.begins d (l.last + 1) b).1 = 43 := by
    obtain ⟨G, hcore, hl | hg⟩ := h.is
    · have hfnd := live_found h.inv hcore hl rfl
      have hnow := hcore _ (nowW_mem h.inv.ne)
      have hno : nameOk (fileN l.name (l.last + 1)) = true := nameOk_file h.named _
      have hs0 : (syncLast l d).1 = 0 ∧ (syncLast l d).2.now = d.now ∧ Calm (syncLast l d).2 := by
        refine ⟨?_, ?_, calm_syncLast hc⟩
        · unfold syncLast
          cases hs : l.segs.getLast? with
          | none => rfl
          | some s =>
            obtain ⟨i, hi⟩ := hfnd s (List.mem_of_getLast? hs)
            exact sync_calm (nameOk_file h.named _) hi hc
        · unfold syncLast
          cases hs : l.segs.getLast? with
          | none => rfl
          | some s =>
            obtain ⟨i, hi⟩ := hfnd s (List.mem_of_getLast? hs)
            show (d.sync _).2.now = _
            unfold Dk.sync
            rw [at_find (nameOk_file h.named _) hi, goes_calm hc.1 hc.2]
            rfl
      obtain ⟨g1, g2, g3⟩ := hs0
      unfold Lg.begins
      rw [if_neg (by rw [g1]; simp)]
      generalize (syncLast l d).2 = d1 at *
      have hnone : findW d1.now (fileN l.name (l.last + 1)) = none := by
        rw [g2]
        refine findW_none fun e he => ?_
        rw [hnow.names e he]
        have hf := hnow.file e he
        have hw := hl.whole e he
        have hp : 0 < (G e.2).2.length := List.length_pos_iff.2 hw.2
        have hle := hf.le
        rw [hw.1, visF_all] at hle
        have hpos := hf.pos
        intro e2
        have := file_inj (by unfold W64 at *; omega) (by unfold W64 at *; omega) e2
        omega
      have hcr : (d1.create (fileN l.name (l.last + 1))).1 = 43 ∨ ((d1.create (fileN l.name (l.last + 1))).1 = 0 ∧ ∃ i, findW (d1.create (fileN l.name (l.last + 1))).2.now (fileN l.name (l.last + 1)) = some i) := by
        unfold Dk.create
        rw [if_neg (by rw [hno]; simp), if_neg (by rw [hnone]; simp)]
        split
        · exact .inl rfl
        · rw [goes_calm g3.1 g3.2]
          refine .inr ⟨rfl, ?_⟩
          rw [with_nowW]
          cases hx : findW (insW d1.now (fileN l.name (l.last + 1)) d1.files.length) (fileN l.name (l.last + 1)) with
          | some i => exact ⟨i, rfl⟩
          | none =>
            exfalso
            have : (fileN l.name (l.last + 1), d1.files.length) ∈ insW d1.now (fileN l.name (l.last + 1)) d1.files.length := by
              unfold insW
              simp
            unfold findW at hx
            rw [Option.map_eq_none_iff, List.find?_eq_none] at hx
            have := hx _ this
            simp at this
      rcases hcr with q | ⟨q, i, hi⟩
      · rw [if_pos (by rw [q]; simp), q]
        exact .inr (.inr rfl)
      · rw [if_neg (by rw [q]; simp)]
        rcases append_calm (b := headB (l.last + 1) ++ recB (l.last + 1) b) hno hi (calm_create g3) with q2 | q2
        · rw [if_neg (by rw [q2]; simp)]
          exact .inl rfl
        · rw [if_pos (by rw [q2]; simp), q2]
          exact .inr (.inl rfl)
    · exact absurd hg.1 (by rw [hc.1]; simp)
  unfold Lg.append
  rw [if_neg (by unfold maxM W64 at *; omega)]
  cases hs : l.segs.getLast? with
  | none =>
    simp only
    split
    · exact key
    · exact .inl rfl
  | some s =>
    simp only
    split
    · obtain ⟨G, hcore, hl | hg⟩ := h.is
      · obtain ⟨i, hi⟩ := live_found h.inv hcore hl rfl s (List.mem_of_getLast? hs)
        rcases append_calm (b := recB (l.last + 1) b) (nameOk_file h.named s.no) hi hc with q | q
        · rw [if_neg (by rw [q]; simp)]
          exact .inl rfl
        · rw [if_pos (by rw [q]; simp), q]
          exact .inr (.inl rfl)
      · exact absurd hg.1 (by rw [hc.1]; simp)
    · split
      · exact key
      · exact .inl rfl
theorem full_commit {n : Nat} {all : List Bs} {D : Nat} {l : Lg} {d : Dk} (h : LInv n all D l d) (hc : Calm d) : (l.commit d).1 = 0 := by
  obtain ⟨G, hcore, hl | hg⟩ := h.is
  · have hfnd := live_found h.inv hcore hl rfl
    have h0 : (syncLast l d).1 = 0 := by
      unfold syncLast
      cases hs : l.segs.getLast? with
      | none => rfl
      | some s =>
        obtain ⟨i, hi⟩ := hfnd s (List.mem_of_getLast? hs)
        exact sync_calm (nameOk_file h.named _) hi hc
    have g3 := calm_syncLast (l := l) hc
    unfold Lg.commit
    rw [if_neg (by rw [h0]; simp)]
    have : (syncLast l d).2.syncNames.1 = 0 := by unfold Dk.syncNames; rw [goes_calm g3.1 g3.2]
    rw [if_neg (by rw [this]; simp)]
  · exact absurd hg.1 (by rw [hc.1]; simp)

/-- The bounds once more, told by how many records there are. -/
theorem LInv.lbF {n : Nat} {all : List Bs} {D : Nat} {l : Lg} {d : Dk} (h : LInv n all D l d) (ha : all.length ≤ 2 ^ 20) (hd : d.dead = false) (hs : ∀ b ∈ all, b.length ≤ maxM) (hz : SzOk l.segs) : LB l := by
  obtain ⟨k, hk, hk0, hsa, hkD⟩ := h.tale.are
  have hin := segs_in hk hsa
  have hlast := h.tale.last
  have hsf : l.segs.length ≤ 64 := by
    obtain ⟨G, hc, hl | hg⟩ := h.is
    · rw [hl.segs, List.length_map]
      exact h.inv.nowlen
    · exact absurd hg.1 (by rw [hd]; simp)
  refine ⟨named_le h.named, by unfold W64; omega, by omega, fun s m => ?_, fun s m b hb => ?_⟩
  · obtain ⟨i1, i2, i3⟩ := hin s m
    have hr := recsN_le s.recs fun b hb => hs b (i3 b hb)
    have hzz := hz s m
    exact ⟨by unfold W64; omega, by omega, by omega⟩
  · have := hs b ((hin s m).2.2 b hb)
    unfold maxM at this
    omega
theorem LInv.allLenF {n : Nat} {all : List Bs} {D : Nat} {l : Lg} {d : Dk} (h : LInv n all D l d) (ha : all.length ≤ 2 ^ 20) : l.all.length ≤ 2 ^ 29 := by
  obtain ⟨h1, h2, h3, h4⟩ := tale_first h.tale (by unfold W64; omega)
  rw [Lg.all, segs_numbers h1 h4, number_recs _ _ (by rw [List.length_drop]; unfold W64; omega)]
  simp
  omega
theorem LInv.toldF {n : Nat} {all : List Bs} {D : Nat} {l : Lg} {d : Dk} (h : LInv n all D l d) (ha : all.length ≤ 2 ^ 20) : ToldOk l all := by
  have hall : all.length + 1 < W64 := by unfold W64; omega
  obtain ⟨h1, h2, h3, h4⟩ := tale_first h.tale hall
  have hr := tale_read h.tale hall
  have hlast := h.tale.last
  refine ⟨h1, by omega, by omega, by rw [hr], by rw [hr, hlast]; simp, fun i e he => ?_⟩
  rw [hr] at he
  simp only [List.getElem?_map] at he
  obtain ⟨j, hj, rfl⟩ := Option.map_eq_some_iff.1 he
  obtain ⟨hj1, hj2⟩ := List.getElem?_eq_some_iff.1 hj
  have hj3 : i < all.length + 1 - l.first := by simpa using hj1
  have hji : j = i := by simpa using hj2.symm
  subst hji
  refine ⟨rfl, ?_⟩
  have : (all.drop (l.first - 1))[j]? = all[l.first + j - 1]? := by
    rw [List.getElem?_drop]
    congr 1
    omega
  rw [this]
  obtain ⟨x, hx⟩ : ∃ x, all[l.first + j - 1]? = some x := ⟨_, List.getElem?_eq_getElem (by omega)⟩
  rw [hx]
  rfl
def fullA (v : Nat) : CAct := ⟨0, 0, 0, List.replicate (v % 2000) 0, 0, []⟩
/-- All that holds behind some appends on a disk that does not stop. -/
structure FB (sz q k : Nat) (s : CSt) : Prop where
  inv : LInv (2 * k) s.all 0 s.l s.d
  cnt : Cnt s.d k (2 * k + 1)
  few : s.all.length ≤ k
  uq : Uq q s.d
  short : ∀ b ∈ s.all, b.length ≤ maxM
  szs : SzOk s.l.segs
  name : s.l.name = logN
  size : s.l.size = sz
theorem FB.start (q sz : Nat) (hq : q ≤ 16777216) : FB sz q 0 ⟨newDk q, ⟨logN, sz, [], 0, 0⟩, [], 0, false⟩ where
  inv := (fresh_inv q sz 0 hq).mono (by omega)
  cnt := ⟨by simp [newDk], by simp [newDk]⟩
  few := Nat.le_refl _
  uq := Uq.new q
  short := fun b hb => absurd hb (by simp)
  szs := fun b hb => absurd hb (by simp)
  name := rfl
  size := rfl
theorem FB.step {sz q k : Nat} {s : CSt} (h : FB sz q k s) (hk : k ≤ 2 ^ 20) (v : Nat) : FB sz q (k + 1) (s.step (fullA v)) := by
  have hst : s.step (fullA v) = if (s.l.append s.d (fullA v).b).1 ≠ 0 then { s with d := (s.l.append s.d (fullA v).b).2.2.1, l := (s.l.append s.d (fullA v).b).2.2.2 } else { s with d := (s.l.append s.d (fullA v).b).2.2.1, l := (s.l.append s.d (fullA v).b).2.2.2, all := s.all ++ [(fullA v).b] } := by
    unfold CSt.step
    rw [if_pos (show (fullA v).kind = 0 from rfl)]
  rw [hst]
  generalize (fullA v).b = b
  have hc : Cnt (s.l.append s.d b).2.2.1 (k + 1) (2 * (k + 1) + 1) := cnt_lappend h.cnt
  have hf := h.few
  rcases append_ok h.inv (by unfold W64; omega) b with ⟨g1, g2, g3, g4⟩ | ⟨g1, g2, g4⟩
  · rw [if_neg (by rw [g1]; simp)]
    refine ⟨g4.rebase (hc.mono (by omega) (by omega)) (by simp; omega), hc, by simp; omega, h.uq.lappend _ _, fun x hx => ?_, sz_append h.szs, (append_same _ _ _).1.trans h.name, (append_same _ _ _).2.trans h.size⟩
    rcases List.mem_append.1 hx with h5 | h5
    · exact h.short x h5
    · rw [List.mem_singleton.1 h5]; exact g3
  · rw [if_pos g1]
    exact ⟨g4.rebase (hc.mono (by omega) (by omega)) (by show s.all.length ≤ _; omega), hc, by show s.all.length ≤ _; omega, h.uq.lappend _ _, h.short, sz_append h.szs, (append_same _ _ _).1.trans h.name, (append_same _ _ _).2.trans h.size⟩

end Ab
end Go.Proofs.YtmbbnoipoifhhaaGreatDoor
