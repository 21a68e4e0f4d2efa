/-
  DERIVED. A log on a disk that does not stop: what an append may answer; never more in use than there is room for. In plain Lean.
  Conditions: none of a program's.
-/
import Derived.Test.YtmbbnoipoifhhaaGreatDoorVE
import Derived.Test.YtmbbnoipoifhhaaGreatDoorUB
set_option linter.all false
set_option maxHeartbeats 4000000
namespace Go.Proofs.YtmbbnoipoifhhaaGreatDoor
namespace Ab
set_option linter.all false
set_option maxRecDepth 100000

structure Uq (q : Nat) (d : Dk) : Prop where
  calm : Calm d
  used : d.used ≤ q
  quota : d.quota = q
  nd : (d.now.map Prod.snd).Nodup
  lt : ∀ e ∈ d.now, e.2 < d.files.length

theorem bump_sum (f : Nat → Nat) (i c : Nat) : ∀ l : List Nat, l.Nodup → (l.map fun j => if j = i then f j + c else f j).sum ≤ (l.map f).sum + c
  | [], _ => Nat.zero_le _
  | j :: l, h => by
    rw [List.nodup_cons] at h
    simp only [List.map_cons, List.sum_cons]
    by_cases hj : j = i
    · subst hj
      have : (l.map fun k => if k = j then f k + c else f k) = l.map f := List.map_congr_left fun k hk => if_neg fun (e : k = j) => h.1 (e ▸ hk)
      rw [if_pos rfl, this]
      omega
    · rw [if_neg hj]
      have := bump_sum f i c l h.2
      omega
theorem sums_le {f g : Nat → Nat} : ∀ {l : List Nat}, (∀ j ∈ l, f j ≤ g j) → (l.map f).sum ≤ (l.map g).sum
  | [], _ => Nat.le_refl _
  | j :: l, h => by
    simp only [List.map_cons, List.sum_cons]
    have h1 := h j (List.mem_cons_self ..)
    have h2 := sums_le (l := l) fun k hk => h k (List.mem_cons_of_mem _ hk)
    omega
theorem sums_sub {f : Nat → Nat} {l l' : List Nat} (h : l.Sublist l') : (l.map f).sum ≤ (l'.map f).sum := by
  induction h with
  | slnil => exact Nat.le_refl _
  | cons a _ ih => simp only [List.map_cons, List.sum_cons]; omega
  | cons_cons a _ ih => simp only [List.map_cons, List.sum_cons]; omega
theorem used_eq (d : Dk) : d.used = ((d.now.map Prod.snd).map fun j => (d.file j).b.length).sum := by
  unfold Dk.used
  rw [List.map_map]
  rfl
theorem calm_stop1 {d : Dk} (h : Calm d) : d.stop1 = d := by simp [Dk.stop1, h.1, h.2]
theorem setF_any (d : Dk) (i : Nat) (x : Fl) (j : Nat) : (d.setF i x).file j = if j = i ∧ i < d.files.length then x else d.file j := by
  unfold Dk.file Dk.setF
  simp only [List.getElem?_set]
  by_cases h : i = j
  · subst h
    by_cases h2 : i < d.files.length
    · simp [h2]
    · simp [h2]
  · rw [if_neg h, if_neg fun e => h e.1.symm]

theorem Uq.at {q : Nat} {d : Dk} {s : Bs} {f : Nat → Int × Dk} (h : Uq q d) (hf : ∀ i, Uq q (f i).2) : Uq q (d.at s f).2 := by
  unfold Dk.at
  split
  · exact h
  · split
    · exact h
    · exact hf _
theorem Uq.goes {q : Nat} {d : Dk} {f : Dk → Dk} (h : Uq q d) (hf : Uq q (f d)) : Uq q (d.goes f).2 := by
  rw [goes_calm h.calm.1 h.calm.2]
  exact hf
theorem Uq.sync {q : Nat} {d : Dk} (h : Uq q d) (s : Bs) : Uq q (d.sync s).2 := h.at fun i => h.goes (by
  refine ⟨h.calm, ?_, h.quota, h.nd, fun e he => by simpa [Dk.setF] using h.lt e he⟩
  refine Nat.le_trans (Nat.le_of_eq ?_) h.used
  rw [used_eq, used_eq]
  congr 1
  refine List.map_congr_left fun j _ => ?_
  rw [setF_any]
  split
  · rename_i e; rw [e.1]
  · rfl)
theorem Uq.remove {q : Nat} {d : Dk} (h : Uq q d) (s : Bs) : Uq q (d.remove s).2 := h.at fun i => h.goes (by
  have hsub : ((delW d.now s).map Prod.snd).Sublist (d.now.map Prod.snd) := List.filter_sublist.map _
  refine ⟨h.calm, ?_, h.quota, ?_, ?_⟩
  · refine Nat.le_trans ?_ h.used
    rw [used_eq, used_eq, with_nowW]
    exact sums_sub hsub
  · rw [with_nowW]
    exact h.nd.sublist hsub
  · rw [with_nowW]
    exact fun e he => h.lt e (List.mem_filter.1 he).1)
theorem Uq.create {q : Nat} {d : Dk} (h : Uq q d) (s : Bs) : Uq q (d.create s).2 := by
  unfold Dk.create
  split
  · exact h
  split
  · exact h
  split
  · exact h
  refine h.goes ?_
  have hfile : ∀ j, ((Dk.with { d with files := d.files ++ [⟨[], 0⟩] } (insW d.now s d.files.length)).file j).b.length ≤ (d.file j).b.length := fun j => by
    show (((d.files ++ [(⟨[], 0⟩ : Fl)])[j]?.getD ⟨[], 0⟩).b.length) ≤ _
    unfold Dk.file
    by_cases hj : j < d.files.length
    · rw [List.getElem?_append_left hj]
      exact Nat.le_refl _
    · rw [List.getElem?_append_right (by omega)]
      cases hk : j - d.files.length with
      | zero => simp
      | succ k => simp
  have hins : (insW d.now s d.files.length).map Prod.snd = (d.now.takeWhile fun e => ltB e.1 s).map Prod.snd ++ d.files.length :: ((d.now.dropWhile fun e => ltB e.1 s).filter fun e => e.1 != s).map Prod.snd := by
    unfold insW
    rw [List.map_append, List.map_cons]
  have hsub : ((d.now.takeWhile fun e => ltB e.1 s).map Prod.snd ++ ((d.now.dropWhile fun e => ltB e.1 s).filter fun e => e.1 != s).map Prod.snd).Sublist (d.now.map Prod.snd) := by
    rw [← List.map_append]
    refine List.Sublist.map _ ?_
    conv => rhs; rw [← List.takeWhile_append_dropWhile (p := fun e : Bs × Nat => ltB e.1 s) (l := d.now)]
    exact List.Sublist.append (List.Sublist.refl _) List.filter_sublist
  have hout : (d.file d.files.length).b.length = 0 := by
    unfold Dk.file
    rw [List.getElem?_eq_none (Nat.le_refl _)]
    rfl
  refine ⟨h.calm, ?_, h.quota, ?_, ?_⟩
  · refine Nat.le_trans ?_ h.used
    rw [used_eq, used_eq, with_nowW, hins]
    refine Nat.le_trans (sums_le fun j _ => hfile j) ?_
    have h1 := sums_sub (f := fun j => (d.file j).b.length) hsub
    rw [List.map_append, List.sum_append] at h1 ⊢
    rw [List.map_cons, List.sum_cons, hout]
    omega
  · rw [with_nowW, hins]
    have h1 := h.nd.sublist hsub
    rw [List.nodup_append] at h1 ⊢
    have hmem : ∀ j ∈ ((d.now.takeWhile fun e => ltB e.1 s).map Prod.snd ++ ((d.now.dropWhile fun e => ltB e.1 s).filter fun e => e.1 != s).map Prod.snd), j < d.files.length := fun j hj => by
      obtain ⟨e, he, rfl⟩ := List.mem_map.1 (hsub.subset hj)
      exact h.lt e he
    refine ⟨h1.1, List.nodup_cons.2 ⟨fun e => absurd (hmem _ (List.mem_append_right _ e)) (by omega), h1.2.1⟩, fun a ha b hb => ?_⟩
    rcases List.mem_cons.1 hb with rfl | hb
    · exact fun e => absurd (hmem a (List.mem_append_left _ ha)) (by omega)
    · exact h1.2.2 a ha b hb
  · rw [with_nowW]
    intro e he
    show e.2 < (d.files ++ [(⟨[], 0⟩ : Fl)]).length
    rw [List.length_append, List.length_singleton]
    rcases insW_mem he with he | he
    · subst he
      simp
    · have := h.lt e he
      omega
theorem Uq.append {q : Nat} {d : Dk} (h : Uq q d) (s b : Bs) : Uq q (d.append s b).2 := h.at fun i => by
  split
  · exact h
  rename_i hq
  rw [if_neg (by rw [h.calm.1]; simp), if_neg (by rw [h.calm.2]; simp), calm_stop1 h.calm]
  refine ⟨h.calm, ?_, h.quota, h.nd, fun e he => by simpa [Dk.put, Dk.setF] using h.lt e he⟩
  have h1 : (d.put i b).used ≤ d.used + b.length := by
    rw [used_eq, used_eq]
    refine Nat.le_trans (sums_le (g := fun j => if j = i then (d.file j).b.length + b.length else (d.file j).b.length) fun j _ => ?_) (bump_sum (fun j => (d.file j).b.length) i b.length _ h.nd)
    unfold Dk.put
    rw [setF_any]
    by_cases hj : j = i
    · subst hj
      rw [if_pos rfl]
      split
      · simp
      · omega
    · rw [if_neg hj, if_neg fun e => hj e.1]
      exact Nat.le_refl _
  show (d.put i b).used ≤ q
  have := h.quota
  omega
theorem Uq.syncLast {q : Nat} {d : Dk} (h : Uq q d) (l : Lg) : Uq q (syncLast l d).2 := by
  unfold Ab.syncLast
  split
  · exact h.sync _
  · exact h
theorem Uq.begins {q : Nat} {d : Dk} (h : Uq q d) (l : Lg) (no : Nat) (b : Bs) : Uq q (l.begins d no b).2.1 := by
  unfold Lg.begins
  repeat' split
  all_goals first | exact h.syncLast l | exact (h.syncLast l).create _ | exact (((h.syncLast l).create _).append _ _).remove _ | exact ((h.syncLast l).create _).append _ _
theorem Uq.lappend {q : Nat} {d : Dk} (h : Uq q d) (l : Lg) (b : Bs) : Uq q (l.append d b).2.2.1 := by
  unfold Lg.append
  repeat' split
  all_goals first | exact h | exact h.append _ _ | exact h.begins l _ _
theorem Uq.new (q : Nat) : Uq q (newDk q) := ⟨⟨rfl, rfl⟩, by simp [Dk.used, newDk, Dk.now], rfl, by simp [newDk, Dk.now], by simp [newDk, Dk.now]⟩

theorem sync_calm {d : Dk} {s : Bs} {i : Nat} (hn : nameOk s = true) (hf : findW d.now s = some i) (h : Calm d) : (d.sync s).1 = 0 := by
  unfold Dk.sync
  rw [at_find hn hf, goes_calm h.1 h.2]
def fullA (v : Nat) : CAct := ⟨0, 0, 0, List.replicate (v % 2000) 0, 0, []⟩
/-- All that holds behind some appends on a disk that does not stop. -/
structure FB (sz q k : Nat) (s : CSt) : Prop where
  inv : LInv (2 * k) s.all 0 s.l s.d
  cnt : Cnt s.d k (2 * k + 1)
  few : s.all.length ≤ k
  uq : Uq q s.d
  short : ∀ b ∈ s.all, b.length ≤ maxM
  szs : SzOk s.l.segs
  name : s.l.name = logN
  size : s.l.size = sz
theorem FB.step {sz q k : Nat} {s : CSt} (h : FB sz q k s) (hk : k ≤ 2 ^ 20) (v : Nat) : FB sz q (k + 1) (s.step (fullA v)) := by
  have hst : s.step (fullA v) = if (s.l.append s.d (fullA v).b).1 ≠ 0 then { s with d := (s.l.append s.d (fullA v).b).2.2.1, l := (s.l.append s.d (fullA v).b).2.2.2 } else { s with d := (s.l.append s.d (fullA v).b).2.2.1, l := (s.l.append s.d (fullA v).b).2.2.2, all := s.all ++ [(fullA v).b] } := by
    unfold CSt.step
    rw [if_pos (show (fullA v).kind = 0 from rfl)]
  rw [hst]
  generalize (fullA v).b = b
  have hc : Cnt (s.l.append s.d b).2.2.1 (k + 1) (2 * (k + 1) + 1) := cnt_lappend h.cnt
  have hf := h.few
  rcases append_ok h.inv (by unfold W64; omega) b with ⟨g1, g2, g3, g4⟩ | ⟨g1, g2, g4⟩
  · rw [if_neg (by rw [g1]; simp)]
    refine ⟨g4.rebase (hc.mono (by omega) (by omega)) (by simp; omega), hc, by simp; omega, h.uq.lappend _ _, fun x hx => ?_, sz_append h.szs, (append_same _ _ _).1.trans h.name, (append_same _ _ _).2.trans h.size⟩
    rcases List.mem_append.1 hx with h5 | h5
    · exact h.short x h5
    · rw [List.mem_singleton.1 h5]; exact g3
  · rw [if_pos g1]
    exact ⟨g4.rebase (hc.mono (by omega) (by omega)) (by show s.all.length ≤ _; omega), hc, by show s.all.length ≤ _; omega, h.uq.lappend _ _, h.short, sz_append h.szs, (append_same _ _ _).1.trans h.name, (append_same _ _ _).2.trans h.size⟩

end Ab
end Go.Proofs.YtmbbnoipoifhhaaGreatDoor

/-
  DERIVED. A disk with one file of any bytes, opened as a log. In plain Lean.
  Conditions: none of a program's.
-/
namespace Go.Proofs.YtmbbnoipoifhhaaGreatDoor
namespace Ab
set_option linter.all false
set_option maxRecDepth 100000

theorem syncNamesC {d : Dk} (h : Calm d) : d.syncNames.1 = 0 := by
  unfold Dk.syncNames
  rw [goes_calm h.1 h.2]
theorem find_one (s : Bs) (i : Nat) : findW [(s, i)] s = some i := by simp [findW]

theorem open_one {d : Dk} {name : Bs} {size i : Nat} (hn : namedN name = true) (hs : 64 ≤ size ∧ size ≤ 4194304) (hc : Calm d) (hnow : d.now = [(fileN name 1, i)]) {recs : List Bs} {is : Bool} {sz : Nat}
    (hr : readS 1 (d.file i).b = (⟨1, recs, sz⟩, is)) (hle : sz ≤ (d.file i).b.length) (hl : recs.length + 1 < W64) (hf : is = false → recs = []) :
    ∃ d', openL d name size = (0, d', some ⟨name, size, if recs = [] then [] else [⟨1, recs, sz⟩], recs.length, recs.length⟩) := by
  have hno : nameOk (fileN name 1) = true := nameOk_file hn 1
  have hfd : findW d.now (fileN name 1) = some i := by rw [hnow]; exact find_one _ _
  have hrd : readD d (fileN name 1) = (d.file i).b := by
    unfold readD
    rw [look_find hno hfd]
    rfl
  have hnos : (d.now.filterMap fun e => numberedN name e.1) = [1] := by
    rw [hnow]
    simp [numbered_file (name := name) (no := 1) (by unfold W64; omega)]
  have hlook : lookL d name [1] [] false false = some ([⟨1, recs, sz⟩], !is, decide (sz ≠ (d.file i).b.length)) := by
    unfold lookL
    rw [hrd, hr]
    have hb : badOf (!([] : List Nat).isEmpty) [] 1 ⟨1, recs, sz⟩ is (d.file i).b.length = false := by
      have h1 : (1 + recs.length) % W64 = 1 + recs.length := Nat.mod_eq_of_lt (by omega)
      simp [badOf, gapOf, h1]
    rw [if_neg (by rw [hb]; simp)]
    rfl
  have htill : (⟨1, recs, sz⟩ : Sg).till = recs.length := by
    unfold Sg.till
    simp only
    rw [show 1 + recs.length + (W64 - 1) = recs.length + W64 by unfold W64; omega, Nat.add_mod_right, Nat.mod_eq_of_lt (by omega)]
  have sync1 : ∀ d1 : Dk, Calm d1 → d1.now = d.now → (syncsL name [⟨1, recs, sz⟩] d1).1 = 0 := fun d1 h1 h2 => by
    have hfd1 : findW d1.now (fileN name 1) = some i := by rw [h2]; exact hfd
    unfold syncsL
    rw [if_neg (by rw [sync_calm hno hfd1 h1]; simp)]
    unfold syncsL
    exact syncNamesC (calm_sync h1)
  have hm : ∃ d', mendsL d name [⟨1, recs, sz⟩] (!is) (decide (sz ≠ (d.file i).b.length)) = (0, d', if recs = [] then [] else [⟨1, recs, sz⟩]) := by
    unfold mendsL
    simp only [List.getLast?_singleton]
    by_cases h0 : recs = []
    · subst h0
      rw [if_pos (by simp)]
      have h1 : (d.remove (fileN name 1)).1 = 0 := by
        unfold Dk.remove
        rw [at_find hno hfd, goes_calm hc.1 hc.2]
      rw [if_neg (by rw [h1]; simp)]
      refine ⟨(syncsL name [] (d.remove (fileN name 1)).2).2, ?_⟩
      have h2 : (syncsL name [] (d.remove (fileN name 1)).2).1 = 0 := syncNamesC (calm_remove hc)
      show ((syncsL name [] (d.remove (fileN name 1)).2).1, _, _) = _
      rw [h2]
      rfl
    · have his : is = true := by
        cases is
        · exact absurd (hf rfl) h0
        · rfl
      subst his
      have hlen : recs.length ≠ 0 := fun e => h0 (List.eq_nil_of_length_eq_zero e)
      rw [if_neg (by simp [h0]), if_neg h0]
      split
      · have h1 : (d.cut (fileN name 1) sz).1 = 0 ∧ Calm (d.cut (fileN name 1) sz).2 ∧ (d.cut (fileN name 1) sz).2.now = d.now := by
          unfold Dk.cut
          rw [at_find hno hfd, if_neg (by omega), goes_calm hc.1 hc.2]
          exact ⟨rfl, hc, rfl⟩
        rw [if_neg (by rw [h1.1]; simp), sync1 _ h1.2.1 h1.2.2]
        exact ⟨_, rfl⟩
      · rw [sync1 _ hc rfl]
        exact ⟨_, rfl⟩
  obtain ⟨d', hm'⟩ := hm
  refine ⟨d', ?_⟩
  unfold openL
  rw [if_neg (by omega), if_neg (by rw [hn]; simp), hnos, hlook]
  simp only [hm']
  rw [if_neg (by simp)]
  by_cases h0 : recs = []
  · subst h0
    simp
  · simp [h0, htill]

end Ab
end Go.Proofs.YtmbbnoipoifhhaaGreatDoor

/-
  DERIVED. LogTorn: what is read of a file that was cut, or spoilt at one byte. In plain Lean.
  Conditions: none of a program's.
-/
namespace Go.Proofs.YtmbbnoipoifhhaaGreatDoor
namespace Ab
set_option linter.all false
set_option maxRecDepth 100000

theorem visN_le : ∀ (rs : List Bs) (n : Nat), recsN (rs.take (visR rs n)) ≤ n
  | [], _ => by simp [recsN]
  | b :: r, n => by
    rw [visR]
    split
    · simp [recsN]
    · have := visN_le r (n - (b.length + 12))
      simp only [List.take_succ_cons, recsN]
      omega
theorem vis_next : ∀ (rs : List Bs) (n : Nat), visR rs n < rs.length → ∃ b, rs[visR rs n]? = some b ∧ n < recsN (rs.take (visR rs n)) + b.length + 12
  | [], _, h => by simp [visR] at h
  | b :: r, n, h => by
    rw [visR] at h ⊢
    split
    · rename_i hlt
      exact ⟨b, rfl, by simp [recsN]; omega⟩
    · rename_i hge
      rw [if_neg hge] at h
      obtain ⟨c, h1, h2⟩ := vis_next r (n - (b.length + 12)) (by simp at h; omega)
      refine ⟨c, by simpa using h1, ?_⟩
      simp only [List.take_succ_cons, recsN]
      omega
theorem vis_lt {rs : List Bs} {n : Nat} (h : n < recsN rs) : visR rs n < rs.length := by
  rcases Nat.lt_or_ge (visR rs n) rs.length with h1 | h1
  · exact h1
  · have h2 := visN_le rs n
    rw [List.take_of_length_le h1] at h2
    omega
/-- A file torn: cut, or one byte turned. -/
def tornB (b : Bs) (pos : Nat) (f : UInt8) : Bs := if f = 0 then b.take pos else b.set pos (b[pos]?.getD 0 ^^^ f)
theorem xor_ne {x f : UInt8} (hf : f ≠ 0) : x ^^^ f ≠ x := by
  intro h
  apply hf
  have := congrArg (fun y => x ^^^ y) h
  simpa [← UInt8.xor_assoc] using this
theorem set_ne {l : Bs} {i : Nat} {y : UInt8} (hi : i < l.length) (hy : y ≠ l[i]?.getD 0) : l.set i y ≠ l := by
  intro h
  have h1 := congrArg (fun z => z[i]?) h
  simp only [List.getElem?_set_self hi] at h1
  rw [← h1] at hy
  exact hy rfl

theorem vis_zero (rs : List Bs) : visR rs 0 = 0 := by
  cases rs with
  | nil => rfl
  | cons b r => rw [visR, if_pos (by omega)]
theorem sum_set {no : Nat} {b : Bs} {i : Nat} {y : UInt8} (hi : i < b.length) (hy : y ≠ b[i]) : sumB no b ≠ sumB no (b.set i y) := by
  intro h
  obtain ⟨a, x, c, e, ha, hx⟩ : ∃ a x c, b = a ++ x :: c ∧ a.length = i ∧ x = b[i] := ⟨b.take i, b[i], b.drop (i + 1), by simp, by simp; omega, rfl⟩
  have e2 : b.set i y = a ++ y :: c := by
    rw [e]
    subst ha
    rw [List.set_append_right _ _ (Nat.le_refl _), Nat.sub_self]
    rfl
  rw [e2, e] at h
  exact hy ((sum_change h).symm.trans hx)

theorem torn_cut {recs : List Bs} (hb : ∀ b ∈ recs, b.length ≤ maxM) {pos : Nat} (hp : pos < (strB (1, recs)).length) :
    ∃ is sz, readS 1 ((strB (1, recs)).take pos) = (⟨1, recs.take (visR recs (pos - 24)), sz⟩, is) ∧ sz ≤ ((strB (1, recs)).take pos).length ∧ (is = false → recs.take (visR recs (pos - 24)) = []) := by
  rw [str_len] at hp
  simp only at hp
  have hlen : ((strB (1, recs)).take pos).length = pos := by rw [List.length_take, str_len]; simp only; omega
  by_cases h24 : pos < 24
  · refine ⟨false, 0, ?_, Nat.zero_le _, fun _ => ?_⟩
    · unfold readS
      rw [if_pos (.inl (by rw [hlen]; exact h24)), show pos - 24 = 0 by omega, vis_zero]
      rfl
    · rw [show pos - 24 = 0 by omega, vis_zero]
      rfl
  · have h1 : ((strB (1, recs)).take pos).take 24 = headB 1 := by
      rw [List.take_take, Nat.min_eq_left (by omega), strB, take_app_left (head_len 1).symm]
    have h2 : ((strB (1, recs)).take pos).drop 24 = (recsB 1 recs).take (pos - 24) := by
      rw [List.drop_take, strB, drop_app_left (head_len 1).symm]
    have hl2 : ((recsB 1 recs).take (pos - 24)).length = pos - 24 := by rw [List.length_take, recs_len]; omega
    have h3 : readR ((strB (1, recs)).take pos).length 1 (((strB (1, recs)).take pos).drop 24) = recs.take (visR recs (pos - 24)) := by
      rw [h2, read_prefix recs _ 1 _ hb (List.take_prefix _ _) (by rw [hl2, hlen]; omega), hl2]
    refine ⟨true, 24 + recsN (recs.take (visR recs (pos - 24))), ?_, ?_, fun h => by cases h⟩
    · unfold readS
      rw [if_neg (by rw [hlen, h1]; simp; omega), h3]
    · rw [hlen]
      have := visN_le recs (pos - 24)
      omega
theorem torn_flip {recs : List Bs} (hb : ∀ b ∈ recs, b.length ≤ maxM) {pos : Nat} {y : UInt8} (hp : pos < (strB (1, recs)).length) (hy : y ≠ (strB (1, recs))[pos]) (hs : 24 + recsN (recs.take (visR recs (pos - 24))) ≤ pos → 24 + recsN (recs.take (visR recs (pos - 24))) + 4 ≤ pos) :
    ∃ is sz, readS 1 ((strB (1, recs)).set pos y) = (⟨1, recs.take (visR recs (pos - 24)), sz⟩, is) ∧ sz ≤ ((strB (1, recs)).set pos y).length ∧ (is = false → recs.take (visR recs (pos - 24)) = []) := by
  have hp0 := hp
  rw [str_len] at hp
  simp only at hp
  have hlen : ((strB (1, recs)).set pos y).length = 24 + recsN recs := by rw [List.length_set, str_len]
  by_cases h24 : pos < 24
  · have h1 : ((strB (1, recs)).set pos y).take 24 ≠ headB 1 := by
      intro h
      have e := congrArg (fun l => l[pos]?) h
      simp only [List.getElem?_take_of_lt h24, List.getElem?_set_self hp0] at e
      have e2 : (strB (1, recs))[pos]? = (headB 1)[pos]? := by
        rw [strB, List.getElem?_append_left (by rw [head_len]; exact h24)]
      rw [← e2, List.getElem?_eq_getElem hp0] at e
      exact hy (Option.some.inj e)
    refine ⟨false, 0, ?_, Nat.zero_le _, fun _ => ?_⟩
    · unfold readS
      rw [if_pos (.inr h1), show pos - 24 = 0 by omega, vis_zero]
      rfl
    · rw [show pos - 24 = 0 by omega, vis_zero]
      rfl
  · obtain ⟨o, ho⟩ : ∃ o, o = pos - 24 := ⟨_, rfl⟩
    rw [← ho] at hs ⊢
    have hon : o < recsN recs := by omega
    have hv := vis_lt hon
    obtain ⟨b, hbn, hb2⟩ := vis_next recs o hv
    have hv2 := visN_le recs o
    obtain ⟨k, hk⟩ : ∃ k, k = visR recs o := ⟨_, rfl⟩
    rw [← hk] at hs hv hbn hb2 hv2 ⊢
    obtain ⟨q, hq⟩ : ∃ q, q = o - recsN (recs.take k) := ⟨_, rfl⟩
    have hq4 : 4 ≤ q := by have := hs (by omega); omega
    have hqb : q < b.length + 12 := by omega
    have hbm : b.length ≤ maxM := hb b (List.mem_of_getElem? hbn)
    have hsplit : recs = recs.take k ++ b :: recs.drop (k + 1) := by
      obtain ⟨h1, h2⟩ := List.getElem?_eq_some_iff.1 hbn
      rw [← h2]
      simp
    have hkl : (recs.take k).length = k := by rw [List.length_take]; omega
    have hstr : strB (1, recs) = headB 1 ++ (recsB 1 (recs.take k) ++ (recB (1 + k) b ++ recsB (1 + k + 1) (recs.drop (k + 1)))) := by
      conv => lhs; rw [strB, hsplit]
      simp only [recs_app, hkl, recsB]
    have hset : (strB (1, recs)).set pos y = headB 1 ++ (recsB 1 (recs.take k) ++ (recB (1 + k) b).set q y ++ recsB (1 + k + 1) (recs.drop (k + 1))) := by
      rw [hstr, List.set_append_right _ _ (by rw [head_len]; omega), head_len, List.set_append_right _ _ (by rw [recs_len]; omega), recs_len, List.set_append_left _ _ (by rw [rec_len]; omega), List.append_assoc, ← ho, ← hq]
    have hyb : (recB (1 + k) b)[q]? = some ((strB (1, recs))[pos]) := by
      rw [← List.getElem?_eq_getElem hp0, hstr, List.getElem?_append_right (by rw [head_len]; omega), head_len, List.getElem?_append_right (by rw [recs_len]; omega), recs_len, List.getElem?_append_left (by rw [rec_len]; omega), ← ho, ← hq]
    have hrb : recB (1 + k) b = be 4 b.length ++ (b ++ sumB (1 + k) b) := by rw [recB, List.append_assoc]
    have h1 : ((strB (1, recs)).set pos y).take 24 = headB 1 := by rw [hset, take_app_left (head_len 1).symm]
    have h2 : ((strB (1, recs)).set pos y).drop 24 = recsB 1 (recs.take k) ++ (recB (1 + k) b).set q y ++ recsB (1 + k + 1) (recs.drop (k + 1)) := by rw [hset, drop_app_left (head_len 1).symm]
    have h3 : readR ((strB (1, recs)).set pos y).length 1 (((strB (1, recs)).set pos y).drop 24) = recs.take k := by
      rw [h2]
      have hge := recsN_ge (recs.take k)
      rw [read_bad (recs.take k) _ 1 _ _ b.length (fun x hx => hb x (List.mem_of_mem_take hx)) hbm (by rw [List.length_set, rec_len]) ?_ ?_]
      · rw [List.take_of_length_le]
        rw [hlen]
        have := recsN_app (recs.take k) (recs.drop k)
        rw [List.take_append_drop] at this
        omega
      · rw [hrb, List.set_append_right _ _ (by rw [be_len]; omega), take_app_left (be_len 4 _).symm]
      · rw [hkl]
        have hyb' := hyb
        rw [hrb, List.getElem?_append_right (by rw [be_len]; omega), be_len] at hyb'
        rw [hrb, List.set_append_right _ _ (by rw [be_len]; omega), be_len]
        rw [show ((be 4 b.length) ++ (b ++ sumB (1 + k) b).set (q - 4) y).drop 4 = (b ++ sumB (1 + k) b).set (q - 4) y from drop_app_left (be_len 4 _).symm]
        rw [← List.drop_drop, drop_app_left (be_len 4 _).symm]
        by_cases hd : q - 4 < b.length
        · rw [List.set_append_left _ _ hd, drop_app_left (by simp), take_app_left (by simp), List.take_of_length_le (by rw [sum_len]; omega)]
          rw [List.getElem?_append_left hd, List.getElem?_eq_getElem hd] at hyb'
          exact sum_set hd (by rw [Option.some.inj hyb']; exact hy)
        · rw [List.set_append_right _ _ (by omega), drop_app_left rfl, take_app_left rfl, List.take_of_length_le (by rw [List.length_set, sum_len]; omega)]
          rw [List.getElem?_append_right (by omega)] at hyb'
          refine set_ne (by rw [sum_len]; omega) ?_
          rw [hyb']
          exact hy
    refine ⟨true, 24 + recsN (recs.take k), ?_, by rw [hlen]; omega, fun h => by cases h⟩
    unfold readS
    rw [if_neg (by rw [hlen, h1]; simp), h3]

theorem tale_readM {all : List Bs} {D m : Nat} {l : Lg} (h : Tale all D l) (hall : all.length + 1 < W64) (hm : all.length ≤ m) :
    l.read l.first (m : Nat) = (0, (List.range (all.length + 1 - l.first)).map fun i => (l.first + i, (all.drop (l.first - 1))[i]?.getD [])) := by
  obtain ⟨h1, h2, h3, h4⟩ := tale_first h hall
  have hn := segs_numbers h1 h4
  have hl : (all.drop (l.first - 1)).length = all.length + 1 - l.first := by rw [List.length_drop]; omega
  have hr := number_recs (all.drop (l.first - 1)) l.first (by rw [hl]; omega)
  rw [hl] at hr
  unfold Lg.read
  rw [if_neg (by rw [h.last]; omega)]
  have ha : l.all = (List.range (all.length + 1 - l.first)).map fun i => (l.first + i, (all.drop (l.first - 1))[i]?.getD []) := by
    rw [Lg.all, hn, hr]
  rw [ha]
  congr 1
  rw [List.filter_eq_self.2, List.take_of_length_le]
  · simp; omega
  · intro e he
    rw [List.mem_map] at he
    obtain ⟨i, hi, rfl⟩ := he
    simp
/-- What a log tells that holds a beginning of what was put. -/
theorem told_take {recs : List Bs} {k D : Nat} {l : Lg} (h : Tale (recs.take k) D l) (hr : recs.length ≤ 2 ^ 20) : ToldOk l recs := by
  have hle : (recs.take k).length ≤ recs.length := by rw [List.length_take]; omega
  have hall : (recs.take k).length + 1 < W64 := by unfold W64; omega
  obtain ⟨h1, h2, h3, h4⟩ := tale_first h hall
  have hrd := tale_readM h hall hle
  have hlast := h.last
  refine ⟨h1, by omega, by omega, by rw [hrd], by rw [hrd, hlast]; simp, fun i e he => ?_⟩
  rw [hrd] at he
  simp only [List.getElem?_map] at he
  obtain ⟨j, hj, rfl⟩ := Option.map_eq_some_iff.1 he
  obtain ⟨hj1, hj2⟩ := List.getElem?_eq_some_iff.1 hj
  have hj3 : i < (recs.take k).length + 1 - l.first := by simpa using hj1
  have hji : j = i := by simpa using hj2.symm
  subst hji
  refine ⟨rfl, ?_⟩
  have e1 : ((recs.take k).drop (l.first - 1))[j]? = (recs.take k)[l.first + j - 1]? := by
    rw [List.getElem?_drop]
    congr 1
    omega
  rw [e1]
  obtain ⟨x, hx⟩ : ∃ x, (recs.take k)[l.first + j - 1]? = some x := ⟨_, List.getElem?_eq_getElem (by omega)⟩
  rw [hx]
  have hlt : l.first + j - 1 < k := by rw [List.length_take] at hj3; omega
  rw [List.getElem?_take_of_lt hlt] at hx
  rw [hx]
  rfl
theorem torn_tale (rs : List Bs) (size sz : Nat) : Tale rs 0 ⟨logN, size, if rs = [] then [] else [⟨1, rs, sz⟩], rs.length, rs.length⟩ := by
  refine ⟨rfl, 1, Nat.le_refl _, fun _ => rfl, ?_, Nat.le_refl _⟩
  by_cases h : rs = []
  · subst h
    simp [SegsAre]
  · simp only [if_neg h]
    exact ⟨rfl, h, List.prefix_refl _, Nat.add_comm 1 _⟩
theorem torn_lb {rs : List Bs} {size sz : Nat} (h : rs.length ≤ 2 ^ 20) (hb : ∀ b ∈ rs, b.length ≤ maxM) (hz : sz ≤ 2 ^ 49) : LB ⟨logN, size, if rs = [] then [] else [⟨1, rs, sz⟩], rs.length, rs.length⟩ := by
  by_cases h0 : rs = []
  · subst h0
    exact ⟨by simp [logN], by simp [W64], by simp, fun s m => by simp at m, fun s m => by simp at m⟩
  · simp only [if_neg h0]
    refine ⟨by simp [logN], by simp only [W64]; omega, by simp, fun s m => ?_, fun s m b hbm => ?_⟩
    · rw [List.mem_singleton.1 m]
      exact ⟨by simp [W64], by simp only; omega, hz⟩
    · rw [List.mem_singleton.1 m] at hbm
      have := hb b hbm
      unfold maxM at this
      omega

end Ab
end Go.Proofs.YtmbbnoipoifhhaaGreatDoor

/-
  DERIVED. LogTorn: the log after some appends, on a disk of its own, told outright. In plain Lean.
  Conditions: none of a program's.
-/
namespace Go.Proofs.YtmbbnoipoifhhaaGreatDoor
namespace Ab
set_option linter.all false
set_option maxRecDepth 100000

def tornQ : Nat := 16777216
def tornF : Bs := fileN logN 1
def tornD (recs : List Bs) : Dk := if recs = [] then newDk tornQ else ⟨tornQ, [⟨strB (1, recs), 0⟩], [[], [(tornF, 0)]], 0, false⟩
def tornL (recs : List Bs) : Lg := ⟨logN, 4194304, if recs = [] then [] else [⟨1, recs, 24 + recsN recs⟩], recs.length, 0⟩
theorem tornF_ok : nameOk tornF = true := nameOk_file (by decide) 1
theorem torn_look {recs : List Bs} (h : recs ≠ []) : (tornD recs).look tornF = (0, some ⟨strB (1, recs), 0⟩) := by
  rw [look_find tornF_ok (i := 0) (by simp [tornD, h, Dk.now, findW])]
  simp [tornD, h, Dk.file]
theorem torn_append {recs : List Bs} {b : Bs} (hl : recs.length < 30) (hr : ∀ x ∈ recs, x.length ≤ maxM) (hb : b.length ≤ maxM) :
    (tornL recs).append (tornD recs) b = (0, recs.length + 1, tornD (recs ++ [b]), tornL (recs ++ [b])) := by
  have hN : recsN recs ≤ recs.length * 65548 := recsN_le recs hr
  have hne : recs ++ [b] ≠ [] := by simp
  have hla : (tornL recs).last = recs.length := rfl
  unfold Lg.append
  rw [hla, if_neg (by unfold W64; omega)]
  by_cases h0 : recs = []
  · subst h0
    simp only [tornL, if_true, List.getLast?_nil]
    have hb1 : (⟨logN, 4194304, [], 0, 0⟩ : Lg).begins (tornD []) 1 b = (0, tornD [b], ⟨logN, 4194304, [Sg.takes ⟨1, [], 24⟩ b], 0, 0⟩) := by
      have hc : (newDk tornQ).create tornF = (0, ⟨tornQ, [⟨[], 0⟩], [[], [(tornF, 0)]], 0, false⟩) := by
        unfold Dk.create
        rw [if_neg (by rw [tornF_ok]; simp), if_neg (by simp [newDk, Dk.now, findW]), if_neg (by simp [newDk, Dk.now]), goes_calm rfl rfl]
        rfl
      have ha : (⟨tornQ, [⟨[], 0⟩], [[], [(tornF, 0)]], 0, false⟩ : Dk).append tornF (headB 1 ++ recB 1 b) = (0, tornD [b]) := by
        unfold Dk.append
        rw [at_find tornF_ok (i := 0) (by simp [Dk.now, findW])]
        have hq : ¬ (⟨tornQ, [⟨[], 0⟩], [[], [(tornF, 0)]], 0, false⟩ : Dk).quota < (⟨tornQ, [⟨[], 0⟩], [[], [(tornF, 0)]], 0, false⟩ : Dk).used + (headB 1 ++ recB 1 b).length := by
          simp [Dk.used, Dk.now, Dk.file, head_len, rec_len, tornQ]
          unfold maxM at hb
          omega
        rw [if_neg hq, if_neg (by simp), if_neg (by simp)]
        simp [Dk.put, Dk.stop1, Dk.setF, Dk.file, tornD, strB, recsB]
      have hs : syncLast ⟨logN, 4194304, [], 0, 0⟩ (newDk tornQ) = (0, newDk tornQ) := rfl
      have hx : (⟨logN, 4194304, [], 0, 0⟩ : Lg).begins (newDk tornQ) 1 b = (0, tornD [b], ⟨logN, 4194304, [] ++ [Sg.takes ⟨1, [], 24⟩ b], 0, 0⟩) := by
        unfold Lg.begins
        have e1 : fileN (⟨logN, 4194304, [], 0, 0⟩ : Lg).name 1 = tornF := rfl
        rw [hs, e1, if_neg (by simp), hc, if_neg (by simp), ha, if_neg (by simp)]
      exact hx
    simp only [List.length_nil, Nat.zero_add] at hb1 ⊢
    rw [hb1, if_neg (by simp)]
    simp [tornL, Sg.takes, recsN]
    omega
  · have hgl : (tornL recs).segs.getLast? = some ⟨1, recs, 24 + recsN recs⟩ := by simp [tornL, h0]
    rw [hgl]
    simp only
    have hby : (tornL recs).bytes (tornD recs) ⟨1, recs, 24 + recsN recs⟩ = 24 + recsN recs := by
      unfold Lg.bytes
      have : fileN (tornL recs).name 1 = tornF := rfl
      simp only [this, torn_look h0, str_len]
    rw [hby, if_pos (by show 24 + recsN recs < 4194304; omega)]
    have ha : (tornD recs).append tornF (recB (recs.length + 1) b) = (0, tornD (recs ++ [b])) := by
      unfold Dk.append
      rw [at_find tornF_ok (i := 0) (by simp [tornD, h0, Dk.now, findW])]
      have hq : ¬ (tornD recs).quota < (tornD recs).used + (recB (recs.length + 1) b).length := by
        simp [tornD, h0, Dk.used, Dk.now, Dk.file, str_len, rec_len, tornQ]
        unfold maxM at hb
        omega
      rw [if_neg hq, if_neg (by simp [tornD, h0]), if_neg (by simp [tornD, h0])]
      simp [Dk.put, Dk.stop1, Dk.setF, Dk.file, tornD, h0, strB, recs_app, recsB, Nat.add_comm]
    have e1 : fileN (tornL recs).name 1 = tornF := rfl
    rw [e1, ha, if_neg (by simp)]
    simp [tornL, h0, Sg.takes, recsN_app, recsN]
    omega
theorem torn_long {recs : List Bs} {b : Bs} (hb : maxM < b.length) : (tornL recs).append (tornD recs) b = (2, 0, tornD recs, tornL recs) := by
  unfold Lg.append
  rw [if_pos (.inl hb)]

end Ab
end Go.Proofs.YtmbbnoipoifhhaaGreatDoor

/-
  DERIVED. LogTorn: the torn file on a disk of its own, opened. In plain Lean.
  Conditions: none of a program's.
-/
namespace Go.Proofs.YtmbbnoipoifhhaaGreatDoor
namespace Ab
set_option linter.all false
set_option maxRecDepth 100000

theorem vis_iff : ∀ (rs : List Bs) (m i : Nat), i < rs.length → (recsN (rs.take (i + 1)) ≤ m ↔ i < visR rs m)
  | [], _, i, h => by simp at h
  | b :: r, m, 0, h => by
    rw [visR]
    simp only [List.take_succ_cons, List.take_zero, recsN]
    split <;> omega
  | b :: r, m, i + 1, h => by
    have ih := vis_iff r (m - (b.length + 12)) i (by simpa using h)
    rw [visR, List.take_succ_cons, recsN]
    split
    · omega
    · omega
theorem ends_iff {recs : List Bs} {pos i : Nat} (h : i < recs.length) : 24 + recsN (recs.take (i + 1)) ≤ pos ↔ i < visR recs (pos - 24) := by
  by_cases h24 : 24 ≤ pos
  · rw [← vis_iff recs (pos - 24) i h]
    omega
  · rw [show pos - 24 = 0 by omega, vis_zero]
    omega
def torn2 (b : Bs) : Dk := ⟨tornQ, [⟨b, 0⟩], [[], [(tornF, 0)]], 0, false⟩
theorem torn2_create : (newDk tornQ).create tornF = (0, torn2 []) := by
  unfold Dk.create
  rw [if_neg (by rw [tornF_ok]; simp), if_neg (by simp [newDk, Dk.now, findW]), if_neg (by simp [newDk, Dk.now]), goes_calm rfl rfl]
  rfl
theorem torn2_append {b : Bs} (hb : b.length ≤ tornQ) : (torn2 []).append tornF b = (0, torn2 b) := by
  unfold Dk.append
  rw [at_find tornF_ok (i := 0) (by simp [torn2, Dk.now, findW])]
  have hq : ¬ (torn2 []).quota < (torn2 []).used + b.length := by
    simp [torn2, Dk.used, Dk.now, Dk.file]
    exact hb
  rw [if_neg hq, if_neg (by simp [torn2]), if_neg (by simp [torn2])]
  simp [Dk.put, Dk.stop1, Dk.setF, Dk.file, torn2]
theorem torn_open {recs : List Bs} (hb : ∀ b ∈ recs, b.length ≤ maxM) (hl : recs.length ≤ 30) {pos : Nat} {f : UInt8} (hp : pos < (strB (1, recs)).length)
    (hs : f ≠ 0 → 24 + recsN (recs.take (visR recs (pos - 24))) ≤ pos → 24 + recsN (recs.take (visR recs (pos - 24))) + 4 ≤ pos) :
    ∃ d' sz, openL (torn2 (tornB (strB (1, recs)) pos f)) logN 4194304 = (0, d', some ⟨logN, 4194304, if recs.take (visR recs (pos - 24)) = [] then [] else [⟨1, recs.take (visR recs (pos - 24)), sz⟩], (recs.take (visR recs (pos - 24))).length, (recs.take (visR recs (pos - 24))).length⟩) ∧ sz ≤ 2 ^ 49 := by
  have hN : recsN recs ≤ recs.length * 65548 := recsN_le recs hb
  have hlen := str_len (1, recs)
  simp only at hlen
  obtain ⟨is, sz, h1, h2, h3⟩ : ∃ is sz, readS 1 (tornB (strB (1, recs)) pos f) = (⟨1, recs.take (visR recs (pos - 24)), sz⟩, is) ∧ sz ≤ (tornB (strB (1, recs)) pos f).length ∧ (is = false → recs.take (visR recs (pos - 24)) = []) := by
    unfold tornB
    by_cases hf : f = 0
    · rw [if_pos hf]
      exact torn_cut hb hp
    · rw [if_neg hf]
      refine torn_flip hb hp ?_ (hs hf)
      rw [List.getElem?_eq_getElem hp]
      exact xor_ne hf
  have hbl : (tornB (strB (1, recs)) pos f).length ≤ 2 ^ 49 := by
    unfold tornB
    split
    · rw [List.length_take]; omega
    · rw [List.length_set]; omega
  have hfile : (torn2 (tornB (strB (1, recs)) pos f)).file 0 = ⟨tornB (strB (1, recs)) pos f, 0⟩ := rfl
  obtain ⟨d', hd⟩ := open_one (d := torn2 (tornB (strB (1, recs)) pos f)) (name := logN) (size := 4194304) (i := 0) (by decide) (by omega) ⟨rfl, rfl⟩ rfl (by rw [hfile]; exact h1) (by rw [hfile]; exact h2) (by rw [List.length_take]; unfold W64; omega) h3
  exact ⟨d', sz, hd, by omega⟩

theorem torn_len24 {recs : List Bs} (hl : recs.length ≤ 31) (hr : ∀ x ∈ recs, x.length ≤ maxM) : (strB (1, recs)).length ≤ 2 ^ 24 := by
  have hN : recsN recs ≤ recs.length * 65548 := recsN_le recs hr
  rw [str_len]
  simp only
  omega
theorem torn2_inv {b : Bs} (hb : b.length ≤ 2 ^ 24) : (torn2 b).Inv 2 := by
  refine ⟨by simp [torn2, tornQ], by simp [torn2], by simp [torn2], by simp [torn2], fun w hw => ?_, fun x hx => ?_, by simp [torn2]⟩
  · simp only [torn2, List.mem_cons, List.mem_nil_iff, or_false] at hw
    rcases hw with rfl | rfl
    · exact ⟨by simp, by simp [Rising], fun e he => by simp at he⟩
    · refine ⟨by simp, by simp [Rising], fun e he => ?_⟩
      rw [List.mem_singleton.1 he]
      exact ⟨by simp [torn2], tornF_ok⟩
  · simp only [torn2, List.mem_singleton] at hx
    subst hx
    exact ⟨hb, Nat.zero_le _⟩
theorem tornD_inv {recs : List Bs} (hl : recs.length ≤ 31) (hr : ∀ x ∈ recs, x.length ≤ maxM) : (tornD recs).Inv 2 := by
  by_cases h0 : recs = []
  · subst h0
    exact (newDk_inv tornQ (by decide)).mono (by omega)
  · have : tornD recs = torn2 (strB (1, recs)) := by simp [tornD, h0, torn2]
    rw [this]
    exact torn2_inv (torn_len24 hl hr)
theorem tornL_lb {recs : List Bs} (hl : recs.length ≤ 31) (hr : ∀ x ∈ recs, x.length ≤ maxM) : LB (tornL recs) := by
  have hN : recsN recs ≤ recs.length * 65548 := recsN_le recs hr
  by_cases h0 : recs = []
  · subst h0
    exact ⟨by simp [tornL, logN], by simp [tornL, W64], by simp [tornL], fun s m => by simp [tornL] at m, fun s m => by simp [tornL] at m⟩
  · have hs : (tornL recs).segs = [⟨1, recs, 24 + recsN recs⟩] := by simp [tornL, h0]
    refine ⟨by simp [tornL, logN], by simp only [tornL, W64]; omega, by rw [hs]; simp, fun s m => ?_, fun s m b hbm => ?_⟩
    · rw [hs] at m
      rw [List.mem_singleton.1 m]
      exact ⟨by simp [W64], by simp only; omega, by simp only; omega⟩
    · rw [hs] at m
      rw [List.mem_singleton.1 m] at hbm
      have := hr b hbm
      unfold maxM at this
      omega

end Ab
end Go.Proofs.YtmbbnoipoifhhaaGreatDoor

/-
  DERIVED. LogTorn: the disk's Append of the beginning of a longer array, to a file that is empty.
  Conditions: enough rounds, enough depth; a disk that goes on.
-/
namespace Go.Proofs.YtmbbnoipoifhhaaGreatDoor
namespace Ab
set_option maxRecDepth 100000
set_option maxHeartbeats 8000000
set_option linter.all false
attribute [local simp] wp_region regionA opsA nCall rCall goCallR pCall pnCall lenA appendA appRow newsA rowsSz rowsOf isIntD makeSliceA elemOf rowsBuilt eqA eq1

theorem c_pAppendT {K n : Nat} (hK : big K) (hn : 4 ≤ n) {k : Nat} {hp : Hp} {nx : Nat} {S : Nat → Prop} (h : PRep hp nx k (torn2 []) S) (b full : Bs) (ka ga : Nat) (hka0 : lk hp ka = some (ga, .arr 1 (byteRows full))) (hbl : b.length ≤ full.length) (hbt : b = full.take b.length) (hb : full.length ≤ 2 ^ 24) :
    Sp K n 15 [.ptr k 0 0, .s (ba tornF), .rs ka ga 0 b.length 1] hp nx fun r hp' nx' => r = .i .i64 0 ∧ PRep hp' nx' k (torn2 b) (grw S nx nx') ∧ Frm S hp nx hp' nx' := by
  have happ := torn2_append (b := b) (by unfold tornQ; omega)
  have hI : (torn2 []).Inv 2 := torn2_inv (by simp)
  obtain ⟨d, hd0⟩ : ∃ d, d = torn2 [] := ⟨_, rfl⟩
  rw [← hd0] at h happ hI
  refine sp_cps fun Q hQ => ?_
  obtain ⟨n, rfl⟩ : ∃ m, n = m + 1 := ⟨n - 1, by omega⟩
  obtain ⟨hS, m, wv, ms, φ, bv, h⟩ := h
  obtain ⟨h1, n1, e1⟩ := f_changes (K := K) (n := n) (by omega) hI h
  obtain ⟨nf, ef⟩ := f_find (K := K) (n := n) hK (by omega) hI h tornF
  have eu := f_used (K := K) (n := n) (by omega) hI h
  have hu := hI.used
  have e0 := fun N => (ef N).1
  have gf : ∀ N, nx ≤ N → nx ≤ nf N := fun N hN => Nat.le_trans hN (ef N).2
  have gf' : ∀ N c, nx ≤ N → nx ≤ nf N + c := fun N c hN => leA (gf N hN)
  have e1' := fun N => (e1 N).1
  have g1 : ∀ N, nx ≤ N → nx ≤ n1 N := fun N hN => Nat.le_trans hN (e1 N).2.1
  have g1' : ∀ N c, nx ≤ N → nx ≤ n1 N + c := fun N c hN => leA (g1 N hN)
  have hg := h.top
  have hs : nameOk tornF = true := tornF_ok
  have hfw : findW d.now tornF = some 0 := by rw [hd0]; simp [torn2, Dk.now, findW]
  refine sp_of rfl (run_wp Tryz.func15 rfl (by simp [Tryz.f15]) ?_)
  simp [findR, hs, hfw] at e0
  obtain ⟨hj, _⟩ := hI.found hfw
  obtain ⟨f, z1, z2, z3, z4⟩ := h.file 0 hj
  have hf0 : f = ⟨[], 0⟩ := by rw [hd0] at z1; simpa [torn2] using z1.symm
  have hkφ : φ 0 ≠ k := ne_of_lk z2 h.top (by simp)
  have o1 : ∀ N, lk (h1 N) (φ 0) = some (0, .cells [bv 0, .i .i64 (f.fast : Nat)]) := fun N => by rw [(e1 N).2.2.ne hkφ]; exact z2
  have hbq : b.length ≤ 2 ^ 24 := by omega
  have w1 : IntKind.i64.wrap ((d.used : Int) + (b.length : Int)) = (d.used : Int) + (b.length : Int) := wrap_i64 (by omega) (by omega)
  have hq : ¬ d.quota < d.used + b.length := by rw [hd0]; simp [torn2, Dk.used, Dk.now, Dk.file, tornQ]; omega
  have c1 : ¬ (d.quota : Int) < (d.used : Int) + (b.length : Int) := by omega
  have hd' : d.dead = false := by rw [hd0]; rfl
  have hl1 : d.left ≠ 1 := by rw [hd0]; simp [torn2]
  have hst : d.stops = (d.left == 1) := by simp [Dk.stops, hd']
  rw [hst, hd'] at e1'
  have hl1' : (d.left == 1) = false := by simpa using hl1
  have hput : (torn2 b) = d.stop1.setF 0 ⟨b, f.fast⟩ := by rw [hf0, hd0]; rfl
  have hputE : torn2 b = d.stop1.put 0 [] ∨ b ≠ [] := by
    by_cases h0 : b = []
    · left; rw [h0, hd0]; rfl
    · exact .inr h0
  have p0 : b = [] → ∀ N nx3, nx ≤ nx3 → PRep (up (h1 N) (φ 0) (0, .cells [bv 0, .i .i64 (f.fast : Nat)])) nx3 k (torn2 b) (grw S nx nx3) ∧ Frm S hp nx (up (h1 N) (φ 0) (0, .cells [bv 0, .i .i64 (f.fast : Nat)])) nx3 := fun hb0 N nx3 hx => by
    rw [hputE.resolve_right (fun e => e hb0)]; exact put_same hS h hj (e1 N).2.2 z1 hx
  have hφ1 := hS _ z3
  have fne : ∀ N c, nx ≤ N → ¬ φ 0 = n1 N + c := fun N c hN => by have := g1 N hN; omega
  have wu : IntKind.i64.wrap (d.used : Int) = (d.used : Int) := wrap_i64 (by omega) (by omega)
  have c1' : ¬ (d.quota : Int) < (d.used : Int) := by omega
  have hka : ∀ N, lk (h1 N) ka = some (ga, .arr 1 (byteRows full)) := fun N => by rw [(e1 N).2.2.ne (ne_of_lk hka0 h.top (by simp))]; exact hka0
  have p1 : ∀ N a nx3, nx ≤ a → a < nx3 → PRep (up (up (h1 N) a (0, .arr 1 (byteRows b))) (φ 0) (0, .cells [.rs a 0 0 b.length 1, .i .i64 (f.fast : Nat)])) nx3 k (torn2 b) (grw S nx nx3) ∧
      Frm S hp nx (up (up (h1 N) a (0, .arr 1 (byteRows b))) (φ 0) (0, .cells [.rs a 0 0 b.length 1, .i .i64 (f.fast : Nat)])) nx3 := fun N a nx3 ha hx => by
    rw [hput]; exact put_new (f := f) (f' := f) hS h hj (e1 N).2.2 ha hx f.fast
  have d2 : b.length * 2 ≤ 68719476736 := by omega
  have tk : (byteRows full).take b.length = byteRows b := by rw [take_bytes, ← hbt]
  have d1 : (0 + b.length) * 2 ≤ 68719476736 := by omega
  have p2 : ∀ kb g, bv 0 = .rs kb g 0 0 1 → ∀ N nx3, nx ≤ nx3 → PRep (up (up (h1 N) kb (g + 1, .arr 1 (byteRows b))) (φ 0) (0, .cells [.rs kb (g + 1) 0 b.length 1, .i .i64 (f.fast : Nat)])) nx3 k (torn2 b) (grw S nx nx3) ∧
      Frm S hp nx (up (up (h1 N) kb (g + 1, .arr 1 (byteRows b))) (φ 0) (0, .cells [.rs kb (g + 1) 0 b.length 1, .i .i64 (f.fast : Nat)])) nx3 := fun kb g hbv N nx3 hx => by
    have hfb : bv 0 = .rs kb g 0 f.b.length 1 := by rw [hf0]; exact hbv
    rw [hput]; exact put_old hS h hj (e1 N).2.2 hfb hx f.fast
  have xbc : bv 0 = .vs true 0 [] ∨ ∃ kb g, bv 0 = .rs kb g 0 0 1 ∧ ∀ N, lk (h1 N) kb = some (g, .arr 1 []) ∧ kb ≠ φ 0 := by
    rw [hf0] at z4
    rcases z4 with ⟨xa, xb⟩ | ⟨kb, g, xa, xb, xc⟩
    · exact .inl xb
    · refine .inr ⟨kb, g, xa, fun N => ⟨?_, ne_of_lk xb z2 (by simp)⟩⟩
      rw [(e1 N).2.2.ne (ne_of_lk xb h.top (by simp))]; exact xb
  rcases xbc with hx1 | ⟨kb, g, hx1, hx2⟩
  · rw [hx1] at o1 p0
    by_cases hb0 : b = []
    · subst hb0
      simp (maxDischargeDepth := 8) [e0, eu, hg, w1, c1, e1', Nat.add_assoc, o1, hl1, lk_set, fne, gf, gf', mostB, d2, wu, c1', hl1', hka, tk]
      refine ⟨⟨by kernel_rfl, by kernel_rfl⟩, hQ _ _ _ ?_⟩
      exact ⟨rfl, p0 rfl _ _ (by simp [gf, g1, gf', g1'])⟩
    · simp (maxDischargeDepth := 8) [e0, eu, hg, w1, c1, e1', Nat.add_assoc, o1, hl1, lk_set, fne, gf, gf', mostB, d2, wu, c1', hl1', hka, tk, hb0, hbl]
      refine ⟨⟨by kernel_rfl, by kernel_rfl⟩, hQ _ _ _ ?_⟩
      exact ⟨rfl, p1 _ _ _ (by simp [gf, g1, gf', g1']) (by omega)⟩
  · rw [hx1] at o1 p0
    have hkb := fun N => (hx2 N).1
    have hkb2 : kb ≠ φ 0 := (hx2 0).2
    by_cases hb0 : b = []
    · subst hb0
      simp (maxDischargeDepth := 8) [e0, eu, hg, w1, c1, e1', Nat.add_assoc, o1, hl1, lk_set, fne, gf, gf', mostB, d2, wu, c1', hl1', hka, tk, hkb, hkb2, hkb2.symm]
      refine ⟨⟨by kernel_rfl, by kernel_rfl⟩, hQ _ _ _ ?_⟩
      exact ⟨rfl, p0 rfl _ _ (by simp [gf, g1, gf', g1'])⟩
    · simp (maxDischargeDepth := 8) [e0, eu, hg, w1, c1, e1', Nat.add_assoc, o1, hl1, lk_set, fne, gf, gf', mostB, d1, d2, wu, c1', hl1', hka, tk, hb0, hbl, hkb, hkb2, hkb2.symm]
      refine ⟨⟨by kernel_rfl, by kernel_rfl⟩, hQ _ _ _ ?_⟩
      exact ⟨rfl, p2 kb g hx1 _ _ (by simp [gf, g1, gf', g1'])⟩

theorem rows_set {b : Bs} {i : Nat} {y : UInt8} : (byteRows b).set i [.i .u8 (y.toNat : Int)] = byteRows (b.set i y) := by simp [byteRows, List.map_set]
theorem xor_u8 (x y : UInt8) : IntKind.u8.wrap ((BitVec.ofInt IntKind.u8.bits (x.toNat : Int) ^^^ BitVec.ofInt IntKind.u8.bits (y.toNat : Int)).toNat : Int) = ((x ^^^ y).toNat : Int) := by
  have hb : IntKind.u8.bits = 8 := rfl
  have h1 : (BitVec.ofInt IntKind.u8.bits (x.toNat : Int) ^^^ BitVec.ofInt IntKind.u8.bits (y.toNat : Int)).toNat = (x ^^^ y).toNat := by
    rw [BitVec.toNat_xor, BitVec.ofInt_natCast, BitVec.ofInt_natCast, BitVec.toNat_ofNat, BitVec.toNat_ofNat, hb, Nat.mod_eq_of_lt (by have := x.toNat_lt; omega), Nat.mod_eq_of_lt (by have := y.toNat_lt; omega), UInt8.toNat_xor]
  rw [h1]
  have h2 := (x ^^^ y).toNat_lt
  generalize (x ^^^ y).toNat = c at *
  have hs : IntKind.u8.signed = false := rfl
  unfold IntKind.wrap
  rw [hb, hs]
  simp
  omega
theorem xor_u8b (x y : UInt8) : IntKind.u8.wrap (((x.toNat % 2 ^ IntKind.u8.bits ^^^ y.toNat % 2 ^ IntKind.u8.bits : Nat)) : Int) = ((x ^^^ y).toNat : Int) := by
  have h := xor_u8 x y
  rwa [BitVec.toNat_xor, BitVec.ofInt_natCast, BitVec.ofInt_natCast, BitVec.toNat_ofNat, BitVec.toNat_ofNat] at h

end Ab
end Go.Proofs.YtmbbnoipoifhhaaGreatDoor
