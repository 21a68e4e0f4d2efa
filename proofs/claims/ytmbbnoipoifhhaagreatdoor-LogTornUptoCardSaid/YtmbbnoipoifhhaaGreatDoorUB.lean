/-
  DERIVED. A log's files behind a crash, and read again. In plain Lean.
  Conditions: none of a program's.
-/
import Derived.Test.YtmbbnoipoifhhaaGreatDoorUA
set_option linter.all false
set_option maxHeartbeats 4000000
namespace Go.Proofs.YtmbbnoipoifhhaaGreatDoor
namespace Ab
set_option linter.all false

theorem crash_take (x : Fl) (k : Int) (h : x.fast ≤ x.b.length) : ∃ m, x.fast ≤ m ∧ x.crash k = ⟨x.b.take m, (x.b.take m).length⟩ := by
  unfold Fl.crash
  split
  · exact ⟨_, Nat.le_add_right _ _, rfl⟩
  · exact ⟨x.b.length, h, by rw [List.take_length]⟩
theorem crash_twice (x : Fl) (k k' : Int) (h : x.fast ≤ x.b.length) : (x.crash k).crash k' = x.crash k := by
  obtain ⟨m, h1, h2⟩ := crash_take x k h
  rw [h2]
  unfold Fl.crash
  rw [if_neg (by simp)]
/-- What becomes of a file. -/
theorem crashF_file {keeps : List Int} : ∀ {w : Way} {a : Nat} {fs : List Fl} (i : Nat), (∀ e ∈ w, e.2 < fs.length) → (∀ x ∈ fs, x.fast ≤ x.b.length) → i < fs.length →
    ((∀ e ∈ w, e.2 ≠ i) ∧ (crashF keeps w a fs)[i]?.getD ⟨[], 0⟩ = fs[i]?.getD ⟨[], 0⟩) ∨ ∃ k, (crashF keeps w a fs)[i]?.getD ⟨[], 0⟩ = (fs[i]?.getD ⟨[], 0⟩).crash k
  | [], a, fs, i, _, _, _ => .inl ⟨fun e he => absurd he (by simp), rfl⟩
  | e :: w, a, fs, i, hw, hf, hi => by
    rw [crashF]
    have he := hw e (by simp)
    have hx : (fs[e.2]?.getD ⟨[], 0⟩) ∈ fs := by
      rw [List.getElem?_eq_getElem he]
      exact List.getElem_mem he
    generalize (if keeps = [] then (0 : Int) else keeps[a % keeps.length]?.getD 0) = k
    generalize (if (fs[e.2]?.getD ⟨[], 0⟩).fast < (fs[e.2]?.getD ⟨[], 0⟩).b.length then a + 1 else a) = a'
    have hlen : (fs.set e.2 ((fs[e.2]?.getD ⟨[], 0⟩).crash k)).length = fs.length := by simp
    have ih := crashF_file (keeps := keeps) (w := w) (a := a') (fs := fs.set e.2 ((fs[e.2]?.getD ⟨[], 0⟩).crash k)) i (fun e' he' => by rw [hlen]; exact hw e' (by simp [he'])) (fun x hx' => by
      rcases List.mem_or_eq_of_mem_set hx' with h | h
      · exact hf x h
      · rw [h]
        obtain ⟨m, h1, h2⟩ := crash_take _ k (hf _ hx)
        rw [h2]
        exact Nat.le_refl _) (by rw [hlen]; exact hi)
    by_cases hei : e.2 = i
    · subst hei
      have hs : (fs.set e.2 ((fs[e.2]?.getD ⟨[], 0⟩).crash k))[e.2]?.getD ⟨[], 0⟩ = (fs[e.2]?.getD ⟨[], 0⟩).crash k := by simp [he]
      rw [hs] at ih
      right
      rcases ih with ⟨_, h⟩ | ⟨k', h⟩
      · exact ⟨k, h⟩
      · exact ⟨k, by rw [h, crash_twice _ _ _ (hf _ hx)]⟩
    · have hs : (fs.set e.2 ((fs[e.2]?.getD ⟨[], 0⟩).crash k))[i]? = fs[i]? := List.getElem?_set_ne hei
      rw [hs] at ih
      rcases ih with ⟨h1, h2⟩ | h
      · left
        refine ⟨fun e' he' => ?_, h2⟩
        rcases List.mem_cons.1 he' with rfl | he'
        · exact hei
        · exact h1 e' he'
      · exact .inr h

/-- A file of which all bytes stand fast. -/
def AllFast (d : Dk) (w : Way) : Prop := ∀ e ∈ w, (d.file e.2).fast = (d.file e.2).b.length
theorem FileIs.cut {all : List Bs} {x : Fl} {g : Nat × List Bs} (h : FileIs all x g) {m : Nat} : FileIs all ⟨x.b.take m, (x.b.take m).length⟩ g where
  pre := List.IsPrefix.trans (List.take_prefix _ _) h.pre
  fast := Nat.le_refl _
  short := h.short
  pos := h.pos
  le := by
    have h1 : visF g (x.b.take m).length ≤ visF g x.b.length := visF_mono _ (by rw [List.length_take]; omega)
    have := h.le
    show _ + visF g (x.b.take m).length ≤ _
    omega
  same := by
    have h1 : visF g (x.b.take m).length ≤ visF g x.b.length := visF_mono _ (by rw [List.length_take]; omega)
    show g.2.take (visF g (x.b.take m).length) = _
    have := congrArg (List.take (visF g (x.b.take m).length)) h.same
    rw [List.take_take, List.take_take, Nat.min_eq_left h1] at this
    exact this
theorem crash_way {n : Nat} {name : Bs} {all : List Bs} {size F D : Nat} {d : Dk} {G : Gh} (hI : d.Inv n) (hc : Core name all size F D d G) (keeps : List Int) (names : Int) :
    ∃ w, (d.crash keeps names).ways = [w] ∧ WayIs name all size F D G (d.crash keeps names).file w ∧ AllFast (d.crash keeps names) w ∧ (d.crash keeps names).dead = false ∧ (d.crash keeps names).left = 0 := by
  have hlt : leftN names d.ways.length < d.ways.length := Nat.mod_lt _ (List.length_pos_iff.2 hI.ne)
  obtain ⟨w, hw⟩ : ∃ w, d.ways[leftN names d.ways.length]? = some w := ⟨_, List.getElem?_eq_getElem hlt⟩
  have hwm : w ∈ d.ways := List.mem_of_getElem? hw
  have hwd : d.ways[leftN names d.ways.length]?.getD [] = w := by rw [hw]; rfl
  have hidx : ∀ e ∈ w, e.2 < d.files.length := fun e he => ((hI.way w hwm).2.2 e he).1
  have hfile : ∀ e ∈ w, ∃ m, (d.file e.2).fast ≤ m ∧ (d.crash keeps names).file e.2 = ⟨(d.file e.2).b.take m, ((d.file e.2).b.take m).length⟩ := by
    intro e he
    have h1 := crashF_file (keeps := keeps) (w := w) (a := 0) (fs := d.files) e.2 hidx (fun x hx => (hI.file x hx).2) (hidx e he)
    have hff : (d.file e.2).fast ≤ (d.file e.2).b.length := by
      have : d.file e.2 ∈ d.files := by
        rw [Dk.file, List.getElem?_eq_getElem (hidx e he)]
        exact List.getElem_mem (hidx e he)
      exact (hI.file _ this).2
    have h2 : (d.crash keeps names).file e.2 = (crashF keeps w 0 d.files)[e.2]?.getD ⟨[], 0⟩ := by
      show (crashF keeps (d.ways[leftN names d.ways.length]?.getD []) 0 d.files)[e.2]?.getD ⟨[], 0⟩ = _
      rw [hwd]
    rcases h1 with ⟨h1, _⟩ | ⟨k, h1⟩
    · exact absurd rfl (h1 e he)
    · obtain ⟨m, h3, h4⟩ := crash_take (d.file e.2) k hff
      exact ⟨m, h3, by rw [h2, h1]; exact h4⟩
  refine ⟨w, ?_, ?_, ?_, rfl, rfl⟩
  · show [d.ways[leftN names d.ways.length]?.getD []] = [w]
    rw [hwd]
  · refine way_up (hc w hwm) fun e he => ?_
    obtain ⟨m, h1, h2⟩ := hfile e he
    have hf := (hc w hwm).file e he
    rw [h2]
    refine ⟨rfl, fun mi => ?_, ?_, hf.cut⟩
    · have : (d.file e.2).b.take m = (d.file e.2).b := List.take_of_length_le (by rw [← mi.fast]; exact h1)
      rw [this]
      exact ⟨⟨mi.whole, rfl, mi.size, mi.ne⟩, rfl⟩
    · refine visF_mono _ ?_
      show (d.file e.2).fast ≤ ((d.file e.2).b.take m).length
      have := hf.fast
      rw [List.length_take]
      omega
  · intro e he
    obtain ⟨m, h1, h2⟩ := hfile e he
    rw [h2]

/-- A file read. -/
theorem readS_pre {all : List Bs} {x : Fl} {g : Nat × List Bs} (h : FileIs all x g) :
    readS g.1 x.b = if x.b.length < 24 then (⟨g.1, [], 0⟩, false) else (sgOf (g.1, g.2.take (visF g x.b.length)), true) := by
  unfold readS
  by_cases h1 : x.b.length < 24
  · rw [if_pos (.inl h1), if_pos h1]
  · obtain ⟨q, hq⟩ := h.pre
    have h2 : x.b.take 24 = headB g.1 := by
      have : (x.b ++ q).take 24 = x.b.take 24 := List.take_append_of_le_length (by omega)
      rw [← this, hq, strB, take_app_left (head_len _).symm]
    rw [if_neg (by intro h3; rcases h3 with h3 | h3; exact h1 h3; exact h3 h2), if_neg h1]
    have h3 : x.b.drop 24 <+: recsB g.1 g.2 := by
      refine ⟨q, ?_⟩
      have : (x.b ++ q).drop 24 = x.b.drop 24 ++ q := List.drop_append_of_le_length (by omega)
      rw [← this, hq, strB, drop_app_left (head_len _).symm]
    have h4 := read_prefix g.2 x.b.length g.1 (x.b.drop 24) h.short h3 (by rw [List.length_drop]; omega)
    rw [List.length_drop] at h4
    rw [h4]
    rfl

end Ab
end Go.Proofs.YtmbbnoipoifhhaaGreatDoor

/-
  DERIVED. A log's files read again, one after the other. In plain Lean.
  Conditions: none of a program's.
-/
namespace Go.Proofs.YtmbbnoipoifhhaaGreatDoor
namespace Ab
set_option linter.all false

def segRead (d : Dk) (G : Gh) (e : Bs × Nat) : Sg := (readS (G e.2).1 (d.file e.2).b).1
theorem readD_find {d : Dk} {s : Bs} {i : Nat} (hn : nameOk s = true) (hf : findW d.now s = some i) : readD d s = (d.file i).b := by
  simp [readD, look_find hn hf]
theorem readS_mid {all : List Bs} {size : Nat} {x : Fl} {g : Nat × List Bs} (h : FileIs all x g) (m : MidIs size x g) : readS g.1 x.b = (sgOf g, true) ∧ (sgOf g).size = x.b.length := by
  have h1 := readS_pre h
  have h2 : ¬ x.b.length < 24 := by rw [m.whole, str_len]; omega
  rw [if_neg h2] at h1
  have h3 : g.2.take (visF g x.b.length) = g.2 := by rw [m.whole, visF_all, List.take_length]
  rw [h3] at h1
  exact ⟨h1, by rw [m.whole, str_len]; rfl⟩
theorem readS_recs {all : List Bs} {x : Fl} {g : Nat × List Bs} (h : FileIs all x g) : (readS g.1 x.b).1.no = g.1 ∧ (readS g.1 x.b).1.recs = g.2.take (visF g x.b.length) ∧ (readS g.1 x.b).1.recs.length = visF g x.b.length := by
  have h1 := readS_pre h
  have hle := visF_le g x.b.length
  rw [h1]
  split
  · rename_i h2
    have : visF g x.b.length = 0 := by
      rw [visF, show x.b.length - 24 = 0 by omega]
      cases g.2 with
      | nil => rfl
      | cons b r => rw [visR, if_pos (by omega)]
    rw [this]
    simp
  · refine ⟨rfl, rfl, ?_⟩
    show (g.2.take _).length = _
    rw [List.length_take]
    omega
theorem till_of {s : Sg} (h1 : 1 ≤ s.no) (h2 : s.no + s.recs.length < W64 + 1) : s.till = s.no + s.recs.length - 1 := by
  rw [Sg.till, show s.no + s.recs.length + (W64 - 1) = (s.no + s.recs.length - 1) + W64 by simp only [W64] at *; omega, Nat.add_mod_right, Nat.mod_eq_of_lt (by omega)]

theorem bad_last {segs : List Sg} {no : Nat} {s : Sg} {is : Bool} {n : Nat} (hp : ∀ p, segs.getLast? = some p → no = (p.till + 1) % W64) (h0 : 1 ≤ no) (hw : no + s.recs.length < W64) (h1 : segs = [] → s.recs.length = 0 → no = 1) : badOf false segs no s is n = false := by
  have e1 : gapOf segs no = false := by
    unfold gapOf
    cases hs : segs.getLast? with
    | none => rfl
    | some p => simpa using hp p hs
  have e2 : decide ((no + s.recs.length) % W64 < no) = false := by rw [Nat.mod_eq_of_lt hw]; simp
  have e3 : decide (no = 0) = false := by simp; omega
  have e4 : (decide (s.recs.length = 0) && segs.isEmpty && decide (no ≠ 1)) = false := by
    cases hs : segs with
    | nil =>
      by_cases hr : s.recs.length = 0
      · simp [h1 hs hr]
      · simp [hr]
    | cons _ _ => simp
  unfold badOf
  rw [e1, e2, e3]
  simp only [Bool.false_and, Bool.or_false, Bool.not_false, Bool.true_and, Bool.false_or]
  exact e4
theorem bad_mid {segs : List Sg} {no : Nat} {s : Sg} {n : Nat} (hp : ∀ p, segs.getLast? = some p → no = (p.till + 1) % W64) (h0 : 1 ≤ no) (hw : no + s.recs.length < W64) (hs : s.size = n) (hr : s.recs ≠ []) : badOf true segs no s true n = false := by
  have e1 : gapOf segs no = false := by
    unfold gapOf
    cases hs : segs.getLast? with
    | none => rfl
    | some p => simpa using hp p hs
  have e2 : decide ((no + s.recs.length) % W64 < no) = false := by rw [Nat.mod_eq_of_lt hw]; simp
  have e3 : decide (no = 0) = false := by simp; omega
  have e4 : decide (s.recs.length = 0) = false := by simpa using hr
  unfold badOf
  rw [e1, e2, e3, e4]
  simp [hs]

theorem look_chain {name : Bs} {all : List Bs} {size F : Nat} {d : Dk} {G : Gh} (hall : all.length + 1 < W64) (hno : ∀ no, nameOk (fileN name no) = true) : ∀ (w : Way) (segs : List Sg) (h g : Bool),
    ChainW G d.file size F w → (∀ e ∈ w, FileIs all (d.file e.2) (G e.2) ∧ findW d.now (fileN name (G e.2).1) = some e.2) →
    (∀ p, segs.getLast? = some p → ∀ e, w.head? = some e → (G e.2).1 = (p.till + 1) % W64) →
    (segs = [] → ∀ e, w = [e] → (G e.2).1 = 1 ∨ 0 < visF (G e.2) (d.file e.2).b.length) →
    lookL d name (w.map fun e => (G e.2).1) segs h g = some (segs ++ w.map (segRead d G), (match w.getLast? with | some e => !(readS (G e.2).1 (d.file e.2).b).2 | none => h), (match w.getLast? with | some e => decide ((segRead d G e).size ≠ (d.file e.2).b.length) | none => g))
  | [], segs, h, g, _, _, _, _ => by simp [lookL]
  | [e], segs, h, g, hc, hf, hp, h1 => by
    obtain ⟨f1, f2⟩ := hf e (by simp)
    obtain ⟨r1, r2, r3⟩ := readS_recs f1
    have hrd := readD_find (hno _) f2
    rw [List.map_cons, List.map_nil, lookL]
    simp only [hrd, List.isEmpty_nil, Bool.not_true]
    rw [bad_last (fun p hp' => hp p hp' e rfl) f1.pos (by rw [r3]; have := f1.le; have := f1.pos; omega) (fun hs hr => by
      rcases h1 hs e rfl with h2 | h2
      · exact h2
      · rw [r3] at hr; omega)]
    rfl
  | e :: e' :: w, segs, h, g, hc, hf, hp, h1 => by
    obtain ⟨f1, f2⟩ := hf e (by simp)
    obtain ⟨c1, c2, c3⟩ := hc
    obtain ⟨r1, r2⟩ := readS_mid f1 c1
    obtain ⟨f1', f2'⟩ := hf e' (by simp)
    have hrd := readD_find (hno _) f2
    have hle := f1.le
    have hpos := f1.pos
    rw [c1.whole, visF_all] at hle
    have hlt : (G e.2).1 + (G e.2).2.length < W64 := by omega
    have ht : (sgOf (G e.2)).till = (G e.2).1 + (G e.2).2.length - 1 := till_of hpos (by show (G e.2).1 + (G e.2).2.length < _; omega)
    have ih := look_chain hall hno (e' :: w) (segs ++ [sgOf (G e.2)]) (!true) (decide ((sgOf (G e.2)).size ≠ (d.file e.2).b.length)) c3 (fun x hx => hf x (List.mem_cons_of_mem _ hx)) (by
      intro p hp' x hx
      simp at hp' hx
      subst hp' hx
      rw [ht, c2, Nat.mod_eq_of_lt (by omega)]
      omega) (by intro hs; simp at hs)
    rw [List.map_cons, lookL]
    simp only [hrd, r1]
    have hne : (!(List.map (fun e => (G e.2).1) (e' :: w)).isEmpty) = true := by simp
    rw [hne, bad_mid (fun p hp' => hp p hp' e rfl) hpos hlt r2 c1.ne]
    simp only [Bool.false_eq_true, if_false]
    rw [ih]
    have hsr : segRead d G e = sgOf (G e.2) := by rw [segRead, r1]
    have hgl : (e :: e' :: w).getLast? = (e' :: w).getLast? := List.getLast?_cons_cons
    obtain ⟨z, hz⟩ : ∃ z, (e' :: w).getLast? = some z := ⟨_, List.getLast?_eq_some_getLast (by simp)⟩
    rw [hgl, hz]
    simp [hsr]

/-- Files of which all stands fast are made fast once more: nothing changes. -/
theorem sync_same {d : Dk} {s : Bs} {i : Nat} (hn : nameOk s = true) (hf : findW d.now s = some i) (hi : i < d.files.length) (hd : d.dead = false) (hl : d.left = 0) (hfast : (d.file i).fast = (d.file i).b.length) : d.sync s = (0, d) := by
  rw [Dk.sync, at_find hn hf, Dk.goes, if_neg (by simp [Dk.stops, hd, hl])]
  have h1 : d.stop1 = d := by simp [Dk.stop1, hd, hl]
  rw [h1]
  have h2 : (⟨(d.file i).b, (d.file i).b.length⟩ : Fl) = d.file i := by rw [← hfast]
  rw [h2]
  have h3 : d.files.set i (d.file i) = d.files := by
    rw [Dk.file, List.getElem?_eq_getElem hi]
    exact List.set_getElem_self hi
  show (0, { d with files := d.files.set i (d.file i) }) = (0, d)
  rw [h3]
theorem syncs_same {name : Bs} {d : Dk} (hno : ∀ no, nameOk (fileN name no) = true) (hd : d.dead = false) (hl : d.left = 0) : ∀ (segs : List Sg), (∀ s ∈ segs, ∃ i, findW d.now (fileN name s.no) = some i ∧ i < d.files.length ∧ (d.file i).fast = (d.file i).b.length) →
    syncsL name segs d = (0, { d with ways := [d.now] })
  | [], _ => by
    rw [syncsL, Dk.syncNames, Dk.goes, if_neg (by simp [Dk.stops, hd, hl])]
    have h1 : d.stop1 = d := by simp [Dk.stop1, hd, hl]
    rw [h1]
  | s :: r, h => by
    obtain ⟨i, h1, h2, h3⟩ := h s (by simp)
    rw [syncsL, sync_same (hno _) h1 h2 hd hl h3, if_neg (by simp)]
    exact syncs_same hno hd hl r fun x hx => h x (List.mem_cons_of_mem _ hx)

end Ab
end Go.Proofs.YtmbbnoipoifhhaaGreatDoor

/-
  DERIVED. A log opened on a disk that has crashed. In plain Lean.
  Conditions: none of a program's.
-/
namespace Go.Proofs.YtmbbnoipoifhhaaGreatDoor
namespace Ab
set_option linter.all false

theorem FileIs.less {all : List Bs} {x : Fl} {g : Nat × List Bs} (h : FileIs all x g) {L : Nat} (h1 : g.1 - 1 + visF g x.b.length ≤ L) (h2 : L ≤ all.length) : FileIs (all.take L) x g where
  pre := h.pre
  fast := h.fast
  short := h.short
  pos := h.pos
  le := by rw [List.length_take]; omega
  same := by
    rw [h.same, List.drop_take, List.take_take, Nat.min_eq_left (by omega)]

/-- A disk on which a log lies, whole. -/
structure Clean (name : Bs) (all : List Bs) (size D : Nat) (d : Dk) (G : Gh) : Prop where
  dead : d.dead = false
  left : d.left = 0
  ways : d.ways = [d.now]
  way : WayIs name all size all.length D G d.file d.now
  whole : ∀ e ∈ d.now, (d.file e.2).b = strB (G e.2) ∧ (G e.2).2 ≠ [] ∧ (d.file e.2).fast = (d.file e.2).b.length
  nil : d.now = [] → all = []
  end_ : ∀ w e, d.now = w ++ [e] → (G e.2).1 + (G e.2).2.length = all.length + 1

def logOf (name : Bs) (size : Nat) (G : Gh) (w : Way) (last : Nat) : Lg := ⟨name, size, w.map fun e => sgOf (G e.2), last, last⟩

/-- The records of a chain of whole files. -/
theorem segs_chain {all : List Bs} {size F : Nat} {d : Dk} {G : Gh} : ∀ {w : Way} {e : Bs × Nat}, ChainW G d.file size F (e :: w) → (∀ x ∈ e :: w, FileIs all (d.file x.2) (G x.2) ∧ (d.file x.2).b = strB (G x.2) ∧ (G x.2).2 ≠ []) →
    (∀ q y, e :: w = q ++ [y] → (G y.2).1 + (G y.2).2.length = all.length + 1) → SegsAre all (G e.2).1 ((e :: w).map fun x => sgOf (G x.2))
  | [], e, hc, hf, he => by
    obtain ⟨h1, h2, h3⟩ := hf e (by simp)
    have h4 := he [] e rfl
    have h5 := h1.same
    rw [h2, visF_all, List.take_length] at h5
    refine ⟨rfl, h3, ?_, h4⟩
    show (G e.2).2 <+: _
    have h6 : (all.drop ((G e.2).1 - 1)).take (G e.2).2.length <+: all.drop ((G e.2).1 - 1) := List.take_prefix _ _
    rw [← h5] at h6
    exact h6
  | e' :: w, e, hc, hf, he => by
    obtain ⟨h1, h2, h3⟩ := hf e (by simp)
    have h5 := h1.same
    rw [h2, visF_all, List.take_length] at h5
    have h6 : (all.drop ((G e.2).1 - 1)).take (G e.2).2.length <+: all.drop ((G e.2).1 - 1) := List.take_prefix _ _
    rw [← h5] at h6
    have ih := segs_chain (w := w) (e := e') hc.2.2 (fun x hx => hf x (List.mem_cons_of_mem _ hx)) (fun q y hq => he (e :: q) y (by rw [hq]; rfl))
    refine ⟨rfl, h3, h6, ?_⟩
    rw [hc.2.1] at ih
    exact ih

theorem Clean.inv {n : Nat} {name : Bs} {all : List Bs} {size D : Nat} {d : Dk} {G : Gh} (h : Clean name all size D d G) (hI : d.Inv n) (hn : namedN name = true) (hall : all.length ≤ n) : LInv n all D (logOf name size G d.now all.length) d where
  inv := hI
  named := hn
  few := hall
  fast := Nat.le_refl _
  tale := by
    refine ⟨rfl, ?_⟩
    cases hd : d.now with
    | nil =>
      refine ⟨1, Nat.le_refl _, fun _ => rfl, ?_, by omega⟩
      show 1 = all.length + 1
      rw [h.nil hd]; rfl
    | cons e w =>
      have hw := h.way
      have hwh := h.whole
      have hen := h.end_
      rw [hd] at hw hwh hen
      refine ⟨(G e.2).1, (hw.file e (by simp)).pos, fun h1 => by simp [logOf] at h1, ?_, hw.first e rfl⟩
      exact segs_chain hw.chain (fun x hx => ⟨hw.file x hx, (hwh x hx).1, (hwh x hx).2.1⟩) hen
  is := by
    refine ⟨G, ?_, .inl ⟨h.dead, rfl, fun e he => ⟨(h.whole e he).1, (h.whole e he).2.1⟩⟩⟩
    intro w hw
    rw [h.ways] at hw
    rw [List.mem_singleton.1 hw]
    exact h.way

theorem numbers_of {name : Bs} {all : List Bs} {size F D : Nat} {G : Gh} {fs : Nat → Fl} : ∀ {w : Way}, (∀ e ∈ w, e.1 = fileN name (G e.2).1 ∧ (G e.2).1 < W64) → w.filterMap (fun e => numberedN name e.1) = w.map fun e => (G e.2).1
  | [], _ => rfl
  | e :: w, h => by
    obtain ⟨h1, h2⟩ := h e (by simp)
    rw [List.filterMap_cons, h1, numbered_file h2]
    simp only [List.map_cons]
    rw [numbers_of (all := all) (size := size) (F := F) (D := D) (fs := fs) fun x hx => h x (List.mem_cons_of_mem _ hx)]

theorem mid_all {name : Bs} {all : List Bs} {size D : Nat} {d : Dk} {G : Gh} (h : Clean name all size D d G) : ∀ e ∈ d.now, segRead d G e = sgOf (G e.2) ∧ (readS (G e.2).1 (d.file e.2).b).2 = true ∧ (segRead d G e).size = (d.file e.2).b.length := by
  intro e he
  have hf := h.way.file e he
  obtain ⟨h1, h2, h3⟩ := h.whole e he
  obtain ⟨r1, r2⟩ := readS_mid (size := 0) hf ⟨h1, h3, Nat.zero_le _, h2⟩
  rw [segRead, r1]
  exact ⟨rfl, rfl, r2⟩

/-- Opened on a whole log: it is read as it is. -/
theorem open_clean {n : Nat} {name : Bs} {all : List Bs} {size D : Nat} {d : Dk} {G : Gh} (h : Clean name all size D d G) (hI : d.Inv n) (hn : namedN name = true) (hall : all.length + 1 < W64) (hs : 64 ≤ size ∧ size ≤ 4194304) :
    openL d name size = (0, d, some (logOf name size G d.now all.length)) := by
  have hno : ∀ no, nameOk (fileN name no) = true := nameOk_file hn
  have hrise := (hI.way _ (nowW_mem hI.ne)).2.1
  have hidx := (hI.way _ (nowW_mem hI.ne)).2.2
  have hfd : ∀ e ∈ d.now, findW d.now (fileN name (G e.2).1) = some e.2 := fun e he => by rw [← h.way.names e he]; exact rising_find hrise he
  have hlt : ∀ e ∈ d.now, (G e.2).1 < W64 := fun e he => by have := (h.way.file e he).le; omega
  have hlook := look_chain hall hno d.now [] false false h.way.chain (fun e he => ⟨h.way.file e he, hfd e he⟩) (fun p hp => by simp at hp) (fun _ e he => by
    right
    have hm : e ∈ d.now := by rw [he]; simp
    obtain ⟨h1, h2, h3⟩ := h.whole e hm
    rw [h1, visF_all]
    exact List.length_pos_iff.2 h2)
  have hsegs : d.now.map (segRead d G) = d.now.map fun e => sgOf (G e.2) := List.map_congr_left fun e he => (mid_all h e he).1
  rw [List.nil_append, hsegs] at hlook
  have hsync : syncsL name (d.now.map fun e => sgOf (G e.2)) d = (0, d) := by
    rw [syncs_same hno h.dead h.left _ fun s hs' => ?_]
    · rw [← h.ways]
    · rw [List.mem_map] at hs'
      obtain ⟨e, he, rfl⟩ := hs'
      exact ⟨e.2, hfd e he, (hidx e he).1, (h.whole e he).2.2⟩
  unfold openL
  rw [if_neg (by omega), hn]
  simp only [Bool.not_true, Bool.false_eq_true, if_false]
  rw [numbers_of (all := all) (size := size) (F := 0) (D := D) (fs := d.file) (G := G) fun e he => ⟨h.way.names e he, hlt e he⟩, hlook]
  rcases List.eq_nil_or_concat d.now with h0 | ⟨w, e, h0⟩
  · rw [h0] at hsync ⊢
    have := h.nil h0
    subst this
    simp only [List.map_nil] at hsync ⊢
    simp [mendsL, hsync, logOf]
  · rw [List.concat_eq_append] at h0
    have hm : e ∈ d.now := by rw [h0]; simp
    obtain ⟨m1, m2, m3⟩ := mid_all h e hm
    have hend := h.end_ w e h0
    have hp : 0 < (G e.2).2.length := List.length_pos_iff.2 (h.whole e hm).2.1
    have hpos := (h.way.file e hm).pos
    have hgl : d.now.getLast? = some e := by rw [h0]; simp
    have hsl : (d.now.map fun e => sgOf (G e.2)).getLast? = some (sgOf (G e.2)) := by rw [h0]; simp
    have ht : (sgOf (G e.2)).till = all.length := by
      rw [till_of hpos (by show (G e.2).1 + (G e.2).2.length < _; omega)]
      show (G e.2).1 + (G e.2).2.length - 1 = _
      omega
    have hme : mendsL d name (d.now.map fun e => sgOf (G e.2)) false false = (0, d, d.now.map fun e => sgOf (G e.2)) := by
      unfold mendsL
      rw [hsl]
      have : decide ((sgOf (G e.2)).recs.length = 0) = false := decide_eq_false (by show ¬ (G e.2).2.length = 0; omega)
      simp only [this, Bool.or_self, Bool.false_eq_true, if_false, hsync]
    simp only [hgl, m2, m3, Bool.not_true, ne_eq, not_true_eq_false, decide_false, hme, if_false, hsl, ht]
    simp [logOf]

end Ab
end Go.Proofs.YtmbbnoipoifhhaaGreatDoor

/-
  DERIVED. A log opened on a disk that has crashed: what was committed is there. In plain Lean.
  Conditions: none of a program's.
-/
namespace Go.Proofs.YtmbbnoipoifhhaaGreatDoor
namespace Ab
set_option linter.all false

theorem goes_calm {d : Dk} {f : Dk → Dk} (hd : d.dead = false) (hl : d.left = 0) : d.goes f = (0, f d) := by
  have h1 : d.stop1 = d := by simp [Dk.stop1, hd, hl]
  rw [Dk.goes, if_neg (by simp [Dk.stops, hd, hl]), h1]
theorem chain_le {G : Gh} {fs : Nat → Fl} {size F : Nat} : ∀ {w : Way} {e : Bs × Nat}, ChainW G fs size F (w ++ [e]) → ∀ x ∈ w, MidIs size (fs x.2) (G x.2) ∧ (G x.2).1 + (G x.2).2.length ≤ (G e.2).1
  | [], e, _, x, hx => by cases hx
  | [y], e, h, x, hx => by
    rw [List.mem_singleton.1 hx]
    exact ⟨h.1, by have := h.2.1; omega⟩
  | y :: z :: w, e, h, x, hx => by
    have ih := chain_le (w := z :: w) h.2.2
    rcases List.mem_cons.1 hx with rfl | hx
    · have := ih z (by simp)
      have := h.2.1
      exact ⟨h.1, by omega⟩
    · exact ih x hx
theorem syncNames_calm {d : Dk} (hd : d.dead = false) (hl : d.left = 0) : d.syncNames = (0, { d with ways := [d.now] }) := by rw [Dk.syncNames, goes_calm hd hl]

/-- The last file has no record: it is taken out. -/
theorem open_short {n : Nat} {name : Bs} {all : List Bs} {size F D : Nat} {d : Dk} {G : Gh} {w : Way} {e : Bs × Nat} (hI : d.Inv n) (hn : namedN name = true) (hall : all.length + 1 < W64) (hs : 64 ≤ size ∧ size ≤ 4194304)
    (hdead : d.dead = false) (hleft : d.left = 0) (hnow : d.now = w ++ [e]) (hw : WayIs name all size F D G d.file (w ++ [e])) (hfast : AllFast d (w ++ [e])) (hv : visF (G e.2) (d.file e.2).b.length = 0) :
    ∃ d' L, openL d name size = (0, d', some (logOf name size G d'.now L)) ∧ F ≤ L ∧ L ≤ all.length ∧ Clean name (all.take L) size D d' G ∧ d'.Inv (n + 2) := by
  have hno : ∀ no, nameOk (fileN name no) = true := nameOk_file hn
  have hrise := (hI.way _ (nowW_mem hI.ne)).2.1
  have hidx := (hI.way _ (nowW_mem hI.ne)).2.2
  rw [hnow] at hrise hidx
  have hfd : ∀ x ∈ w ++ [e], findW d.now (fileN name (G x.2).1) = some x.2 := fun x he => by rw [← hw.names x he, hnow]; exact rising_find hrise he
  have hm : e ∈ w ++ [e] := by simp
  have hfe := hw.file e hm
  have hle := hfe.le
  rw [hv] at hle
  have hmid := chain_le hw.chain
  have hlt : ∀ x ∈ w ++ [e], (G x.2).1 < W64 := fun x hx => by have := (hw.file x hx).le; omega
  have hend := chain_end hw.chain
  rw [hfast e hm, hv] at hend
  have hone : w = [] → (G e.2).1 = 1 := by
    intro h0
    rcases hw.one e (by rw [h0]; rfl) with h1 | h1
    · exact h1
    · have := hfe.pos; omega
  have hlook := look_chain hall hno (w ++ [e]) [] false false hw.chain (fun x hx => ⟨hw.file x hx, hfd x hx⟩) (fun p hp => by simp at hp) (fun _ x hx => by
    left
    have h0 : w = [] := by
      have := congrArg List.length hx
      simp at this
      exact this
    rw [h0] at hx
    simp at hx
    subst hx
    exact hone h0)
  have hsegw : w.map (segRead d G) = w.map fun e => sgOf (G e.2) := List.map_congr_left fun x hx => by
    rw [segRead, (readS_mid (hw.file x (by simp [hx])) (hmid x hx).1).1]
  obtain ⟨r1, r2, r3⟩ := readS_recs hfe
  rw [hv] at r3
  have hgl : (w ++ [e]).getLast? = some e := by simp
  have hmw : (w ++ [e]).map (segRead d G) = (w.map fun e => sgOf (G e.2)) ++ [segRead d G e] := by rw [List.map_append, hsegw]; rfl
  rw [List.nil_append, hmw, hgl] at hlook
  -- the file is taken out
  have hne : ∀ x ∈ w, x.1 ≠ fileN name (G e.2).1 := by
    intro x hx h1
    have h2 := (List.pairwise_append.1 hrise).2.2 x hx e (by simp)
    rw [h1, ← hw.names e hm, ltB, decide_eq_true_eq] at h2
    exact List.lt_irrefl _ h2
  have hrm : d.remove (fileN name (segRead d G e).no) = (0, d.with w) := by
    have h1 : (segRead d G e).no = (G e.2).1 := r1
    rw [h1, Dk.remove, at_find (hno _) (hfd e hm), goes_calm hdead hleft, hnow]
    have he : e = (fileN name (G e.2).1, e.2) := by rw [← hw.names e hm]
    rw [show w ++ [e] = w ++ [(fileN name (G e.2).1, e.2)] by rw [← he], del_end hne]
  have hI1 := hI.remove (fileN name (segRead d G e).no)
  rw [hrm] at hI1
  have hI2 := hI1.syncNames
  rw [syncNames_calm (d := d.with w) hdead hleft, with_nowW] at hI2
  have hfd1 : ∀ x ∈ w, findW (d.with w).now (fileN name (G x.2).1) = some x.2 := fun x hx => by
    rw [with_nowW, ← hw.names x (by simp [hx])]
    exact rising_find (List.pairwise_append.1 hrise).1 hx
  have hsync : syncsL name (w.map fun e => sgOf (G e.2)) (d.with w) = (0, { d.with w with ways := [w] }) := by
    rw [syncs_same hno (by exact hdead) (by exact hleft) _ fun s hs' => ?_, with_nowW]
    rw [List.mem_map] at hs'
    obtain ⟨x, hx, rfl⟩ := hs'
    exact ⟨x.2, hfd1 x hx, (hidx x (by simp [hx])).1, hfast x (by simp [hx])⟩
  have hme : ∀ a b, mendsL d name ((w.map fun e => sgOf (G e.2)) ++ [segRead d G e]) a b = (0, { d.with w with ways := [w] }, w.map fun e => sgOf (G e.2)) := by
    intro a b
    unfold mendsL
    have hg2 : ((w.map fun e => sgOf (G e.2)) ++ [segRead d G e]).getLast? = some (segRead d G e) := by simp
    have hz : decide ((segRead d G e).recs.length = 0) = true := by
      have : (segRead d G e).recs.length = 0 := r3
      rw [this]; rfl
    rw [hg2]
    simp only [hz, Bool.or_true, if_true, hrm, ne_eq, not_true_eq_false, if_false]
    rw [List.dropLast_concat, hsync]
  have hnow' : ({ d.with w with ways := [w] } : Dk).now = w := rfl
  refine ⟨{ d.with w with ways := [w] }, (G e.2).1 - 1, ?_, by omega, by omega, ?_, hI2⟩
  · unfold openL
    rw [if_neg (by omega), hn]
    simp only [Bool.not_true, Bool.false_eq_true, if_false]
    rw [hnow, numbers_of (all := all) (size := size) (F := 0) (D := D) (fs := d.file) (G := G) fun x hx => ⟨hw.names x hx, hlt x hx⟩, hlook]
    simp only [hme, ne_eq, not_true_eq_false, if_false, hnow']
    rcases List.eq_nil_or_concat w with h0 | ⟨q, y, h0⟩
    · have := hone h0
      subst h0
      simp [logOf, this]
    · rw [List.concat_eq_append] at h0
      have hy : y ∈ w := by rw [h0]; simp
      have hinit := chain_init (F' := 0) (by rw [← h0]; exact hw.chain)
      have ht : (sgOf (G y.2)).till = (G e.2).1 - 1 := by
        have h1 := (hw.file y (by simp [hy])).pos
        have h2 := (hmid y hy).2
        rw [till_of h1 (by show (G y.2).1 + (G y.2).2.length < _; have := hlt e hm; omega), hinit.2.1]
        rfl
      have hgy : (w.map fun e => sgOf (G e.2)).getLast? = some (sgOf (G y.2)) := by rw [h0]; simp
      rw [hgy]
      simp only [ht]
      simp [logOf]
  · have hL : (all.take ((G e.2).1 - 1)).length = (G e.2).1 - 1 := by rw [List.length_take]; omega
    have hfile : ({ d.with w with ways := [w] } : Dk).file = d.file := rfl
    refine ⟨hdead, hleft, rfl, ?_, ?_, ?_, ?_⟩
    · rw [hL, hfile, hnow']
      refine ⟨fun x hx => hw.names x (by simp [hx]), fun x hx => ?_, ?_, ?_, ?_, ?_⟩
      · have h1 := hmid x hx
        have hps := (hw.file x (by simp [hx])).pos
        refine (hw.file x (by simp [hx])).less ?_ (by omega)
        rw [h1.1.whole, visF_all]
        omega
      · rcases List.eq_nil_or_concat w with h0 | ⟨q, y, h0⟩
        · rw [h0]; trivial
        · rw [List.concat_eq_append] at h0
          have hy : y ∈ w := by rw [h0]; simp
          have hinit := chain_init (F' := (G e.2).1 - 1) (by rw [← h0]; exact hw.chain)
          rw [h0]
          refine hinit.2.2 ?_
          rw [hinit.1.fast, hinit.1.whole, visF_all, hinit.2.1]
          have := (hw.file y (by simp [hy])).pos
          omega
      · intro h0
        rw [hone h0]
      · intro x hx
        refine hw.first x ?_
        cases w with
        | nil => simp at hx
        | cons a b => simpa using hx
      · intro x hx
        right
        have hx' : x ∈ w := by rw [hx]; simp
        have h1 := hmid x hx'
        have : 0 < (G x.2).2.length := List.length_pos_iff.2 h1.1.ne
        omega
    · intro x hx
      rw [hnow'] at hx
      rw [hfile]
      have h1 := hmid x hx
      exact ⟨h1.1.whole, h1.1.ne, h1.1.fast⟩
    · intro h0
      rw [hnow'] at h0
      rw [hone h0]
      simp
    · intro q y h0
      rw [hnow'] at h0
      rw [hL]
      have hinit := chain_init (F' := 0) (by rw [← h0]; exact hw.chain)
      have := hfe.pos
      rw [hinit.2.1]
      omega

end Ab
end Go.Proofs.YtmbbnoipoifhhaaGreatDoor

/-
  DERIVED. A log opened on a disk that has crashed: what was committed is there. In plain Lean.
  Conditions: none of a program's.
-/
namespace Go.Proofs.YtmbbnoipoifhhaaGreatDoor
namespace Ab
set_option linter.all false
set_option maxRecDepth 100000

theorem str_take {g : Nat × List Bs} {v : Nat} : strB (g.1, g.2.take v) ++ recsB (g.1 + (g.2.take v).length) (g.2.drop v) = strB g := by
  rw [strB, strB, List.append_assoc, ← recs_app, List.take_append_drop]
theorem str_pre {g : Nat × List Bs} {v : Nat} {b : Bs} (h : b <+: strB g) (hl : 24 + recsN (g.2.take v) ≤ b.length) : b.take (24 + recsN (g.2.take v)) = strB (g.1, g.2.take v) := by
  obtain ⟨q, hq⟩ := h
  have h1 : (b ++ q).take (24 + recsN (g.2.take v)) = b.take (24 + recsN (g.2.take v)) := List.take_append_of_le_length hl
  rw [← h1, hq, ← str_take (v := v)]
  exact take_app_left (by rw [str_len])

/-- The last file has records: what is behind them is cut off. -/
theorem open_long {n : Nat} {name : Bs} {all : List Bs} {size F D : Nat} {d : Dk} {G : Gh} {w : Way} {e : Bs × Nat} (hI : d.Inv n) (hn : namedN name = true) (hall : all.length + 1 < W64) (hs : 64 ≤ size ∧ size ≤ 4194304)
    (hdead : d.dead = false) (hleft : d.left = 0) (hways : d.ways = [w ++ [e]]) (hw : WayIs name all size F D G d.file (w ++ [e])) (hfast : AllFast d (w ++ [e])) (hv : 0 < visF (G e.2) (d.file e.2).b.length) :
    ∃ d' G' L, openL d name size = (0, d', some (logOf name size G' d'.now L)) ∧ F ≤ L ∧ L ≤ all.length ∧ Clean name (all.take L) size D d' G' ∧ d'.Inv (n + 2) := by
  have hnow : d.now = w ++ [e] := by rw [Dk.now, hways]; rfl
  have hno : ∀ no, nameOk (fileN name no) = true := nameOk_file hn
  have hrise := (hI.way _ (nowW_mem hI.ne)).2.1
  have hidx := (hI.way _ (nowW_mem hI.ne)).2.2
  rw [hnow] at hrise hidx
  have hfd : ∀ x ∈ w ++ [e], findW d.now (fileN name (G x.2).1) = some x.2 := fun x he => by rw [← hw.names x he, hnow]; exact rising_find hrise he
  have hm : e ∈ w ++ [e] := by simp
  have hfe := hw.file e hm
  have hle := hfe.le
  have hpos := hfe.pos
  have hmid := chain_le hw.chain
  have hlt : ∀ x ∈ w ++ [e], (G x.2).1 < W64 := fun x hx => by have := (hw.file x hx).le; omega
  have hend := chain_end hw.chain
  rw [hfast e hm] at hend
  have hlook := look_chain hall hno (w ++ [e]) [] false false hw.chain (fun x hx => ⟨hw.file x hx, hfd x hx⟩) (fun p hp => by simp at hp) (fun _ x hx => by
    right
    have h0 : w = [] := by
      have := congrArg List.length hx
      simp at this
      exact this
    rw [h0] at hx
    simp at hx
    subst hx
    exact hv)
  have hsegw : w.map (segRead d G) = w.map fun e => sgOf (G e.2) := List.map_congr_left fun x hx => by
    rw [segRead, (readS_mid (hw.file x (by simp [hx])) (hmid x hx).1).1]
  -- what the last file has
  generalize hvv : visF (G e.2) (d.file e.2).b.length = v at *
  have hvle : v ≤ (G e.2).2.length := by rw [← hvv]; exact visF_le _ _
  have h24 : ¬ (d.file e.2).b.length < 24 := by
    intro h24
    have : visF (G e.2) (d.file e.2).b.length = 0 := by
      rw [visF, show (d.file e.2).b.length - 24 = 0 by omega]
      cases (G e.2).2 with
      | nil => rfl
      | cons b r => rw [visR, if_pos (by omega)]
    omega
  have hrs := readS_pre hfe
  rw [if_neg h24, hvv] at hrs
  have hsr : segRead d G e = sgOf ((G e.2).1, (G e.2).2.take v) := by rw [segRead, hrs]
  have hszle : 24 + recsN ((G e.2).2.take v) ≤ (d.file e.2).b.length := by
    have := vis_n (G e.2).2 ((d.file e.2).b.length - 24)
    have h1 : visR (G e.2).2 ((d.file e.2).b.length - 24) = v := hvv
    rw [h1] at this
    omega
  have htk := str_pre (v := v) hfe.pre hszle
  have hlen : ((G e.2).2.take v).length = v := by rw [List.length_take]; omega
  have hgl : (w ++ [e]).getLast? = some e := by simp
  have hmw : (w ++ [e]).map (segRead d G) = (w.map fun e => sgOf (G e.2)) ++ [sgOf ((G e.2).1, (G e.2).2.take v)] := by rw [List.map_append, hsegw, ← hsr]; rfl
  rw [List.nil_append, hmw, hgl] at hlook
  simp only [hsr, hrs] at hlook
  -- the disk behind the cut
  have hie := (hidx e hm).1
  have hxne : ∀ x ∈ w, x.2 ≠ e.2 := by
    intro x hx h1
    have h2 := (hmid x hx).2
    have h3 : 0 < (G x.2).2.length := List.length_pos_iff.2 (hmid x hx).1.ne
    rw [h1] at h2 h3
    omega
  have hcut : ∃ d1 : Dk, d1.dead = false ∧ d1.left = 0 ∧ d1.ways = [w ++ [e]] ∧ d1.files.length = d.files.length ∧ (∀ j, d1.file j = if j = e.2 then ⟨strB ((G e.2).1, (G e.2).2.take v), (strB ((G e.2).1, (G e.2).2.take v)).length⟩ else d.file j) ∧ d1.Inv (n + 1) ∧
      (∀ segs' : Int × Dk × List Sg, (if (decide ((sgOf ((G e.2).1, (G e.2).2.take v)).size ≠ (d.file e.2).b.length)) = true then (if (d.cut (fileN name (G e.2).1) ((sgOf ((G e.2).1, (G e.2).2.take v)).size : Nat)).1 ≠ 0 then segs' else ((syncsL name ((w.map fun e => sgOf (G e.2)) ++ [sgOf ((G e.2).1, (G e.2).2.take v)]) (d.cut (fileN name (G e.2).1) ((sgOf ((G e.2).1, (G e.2).2.take v)).size : Nat)).2).1, (syncsL name ((w.map fun e => sgOf (G e.2)) ++ [sgOf ((G e.2).1, (G e.2).2.take v)]) (d.cut (fileN name (G e.2).1) ((sgOf ((G e.2).1, (G e.2).2.take v)).size : Nat)).2).2, (w.map fun e => sgOf (G e.2)) ++ [sgOf ((G e.2).1, (G e.2).2.take v)]))
        else ((syncsL name ((w.map fun e => sgOf (G e.2)) ++ [sgOf ((G e.2).1, (G e.2).2.take v)]) d).1, (syncsL name ((w.map fun e => sgOf (G e.2)) ++ [sgOf ((G e.2).1, (G e.2).2.take v)]) d).2, (w.map fun e => sgOf (G e.2)) ++ [sgOf ((G e.2).1, (G e.2).2.take v)]))
        = ((syncsL name ((w.map fun e => sgOf (G e.2)) ++ [sgOf ((G e.2).1, (G e.2).2.take v)]) d1).1, (syncsL name ((w.map fun e => sgOf (G e.2)) ++ [sgOf ((G e.2).1, (G e.2).2.take v)]) d1).2, (w.map fun e => sgOf (G e.2)) ++ [sgOf ((G e.2).1, (G e.2).2.take v)])) := by
    have hsz : (sgOf ((G e.2).1, (G e.2).2.take v)).size = 24 + recsN ((G e.2).2.take v) := rfl
    by_cases hlg : (sgOf ((G e.2).1, (G e.2).2.take v)).size = (d.file e.2).b.length
    · refine ⟨d, hdead, hleft, hways, rfl, fun j => ?_, hI.mono (by omega), fun segs' => ?_⟩
      · split
        · rename_i hj
          subst hj
          have h1 : (d.file e.2).b = strB ((G e.2).1, (G e.2).2.take v) := by
            rw [← htk, List.take_of_length_le (by omega)]
          rw [← h1, ← hfast e hm]
        · rfl
      · rw [if_neg (by simp [hlg])]
    · have hI1 := hI.cut (fileN name (G e.2).1) ((sgOf ((G e.2).1, (G e.2).2.take v)).size : Nat)
      have hct : d.cut (fileN name (G e.2).1) ((sgOf ((G e.2).1, (G e.2).2.take v)).size : Nat) = (0, d.setF e.2 ⟨strB ((G e.2).1, (G e.2).2.take v), (strB ((G e.2).1, (G e.2).2.take v)).length⟩) := by
        rw [Dk.cut, at_find (hno _) (hfd e hm), if_neg (by rw [hsz]; omega), goes_calm hdead hleft]
        rw [show ((sgOf ((G e.2).1, (G e.2).2.take v)).size : Int).toNat = 24 + recsN ((G e.2).2.take v) from rfl, htk, hfast e hm, str_len, Nat.min_eq_right hszle]
      rw [hct] at hI1
      refine ⟨d.setF e.2 ⟨strB ((G e.2).1, (G e.2).2.take v), (strB ((G e.2).1, (G e.2).2.take v)).length⟩, hdead, hleft, hways, by simp [Dk.setF], fun j => setF_fileW hie j, hI1, fun segs' => ?_⟩
      rw [if_pos (by simpa using hlg), hct, if_neg (by simp)]
  obtain ⟨d1, c1, c2, c3, c4, c5, c6, c7⟩ := hcut
  have hnow1 : d1.now = w ++ [e] := by rw [Dk.now, c3]; rfl
  have hG' : ∀ x ∈ w, updG G e.2 ((G e.2).1, (G e.2).2.take v) x.2 = G x.2 := fun x hx => by rw [updG, if_neg (hxne x hx)]
  have hGe : updG G e.2 ((G e.2).1, (G e.2).2.take v) e.2 = ((G e.2).1, (G e.2).2.take v) := by rw [updG, if_pos rfl]
  have hf1 : ∀ x ∈ w, d1.file x.2 = d.file x.2 := fun x hx => by rw [c5, if_neg (hxne x hx)]
  have hf1e : d1.file e.2 = ⟨strB ((G e.2).1, (G e.2).2.take v), (strB ((G e.2).1, (G e.2).2.take v)).length⟩ := by rw [c5, if_pos rfl]
  have hsync : syncsL name ((w.map fun e => sgOf (G e.2)) ++ [sgOf ((G e.2).1, (G e.2).2.take v)]) d1 = (0, d1) := by
    rw [syncs_same hno c1 c2 _ fun s hs' => ?_]
    · rw [hnow1, ← c3]
    · rcases List.mem_append.1 hs' with hs' | hs'
      · rw [List.mem_map] at hs'
        obtain ⟨x, hx, rfl⟩ := hs'
        refine ⟨x.2, ?_, by rw [c4]; exact (hidx x (by simp [hx])).1, by rw [hf1 x hx]; exact hfast x (by simp [hx])⟩
        rw [hnow1, ← hnow]
        exact hfd x (by simp [hx])
      · rw [List.mem_singleton.1 hs']
        refine ⟨e.2, ?_, by rw [c4]; exact hie, by rw [hf1e]⟩
        rw [hnow1, ← hnow]
        exact hfd e hm
  have hme : mendsL d name ((w.map fun e => sgOf (G e.2)) ++ [sgOf ((G e.2).1, (G e.2).2.take v)]) (!true) (decide ((sgOf ((G e.2).1, (G e.2).2.take v)).size ≠ (d.file e.2).b.length)) = (0, d1, (w.map fun e => sgOf (G e.2)) ++ [sgOf ((G e.2).1, (G e.2).2.take v)]) := by
    unfold mendsL
    have hg2 : ((w.map fun e => sgOf (G e.2)) ++ [sgOf ((G e.2).1, (G e.2).2.take v)]).getLast? = some (sgOf ((G e.2).1, (G e.2).2.take v)) := by simp
    have hz : decide ((sgOf ((G e.2).1, (G e.2).2.take v)).recs.length = 0) = false := decide_eq_false (by show ¬ ((G e.2).2.take v).length = 0; omega)
    rw [hg2]
    simp only [hz, Bool.not_true, Bool.or_self, Bool.false_eq_true, if_false]
    have := c7 ((d.cut (fileN name (G e.2).1) ((sgOf ((G e.2).1, (G e.2).2.take v)).size : Nat)).1, (d.cut (fileN name (G e.2).1) ((sgOf ((G e.2).1, (G e.2).2.take v)).size : Nat)).2, (w.map fun e => sgOf (G e.2)) ++ [sgOf ((G e.2).1, (G e.2).2.take v)])
    rw [hsync] at this
    exact this
  have ht : (sgOf ((G e.2).1, (G e.2).2.take v)).till = (G e.2).1 - 1 + v := by
    rw [till_of hpos (by show (G e.2).1 + ((G e.2).2.take v).length < _; rw [hlen]; omega)]
    show (G e.2).1 + ((G e.2).2.take v).length - 1 = _
    rw [hlen]; omega
  have hmapw : (w ++ [e]).map (fun x => sgOf (updG G e.2 ((G e.2).1, (G e.2).2.take v) x.2)) = (w.map fun e => sgOf (G e.2)) ++ [sgOf ((G e.2).1, (G e.2).2.take v)] := by
    have h1 : w.map (fun x => sgOf (updG G e.2 ((G e.2).1, (G e.2).2.take v) x.2)) = w.map fun e => sgOf (G e.2) := List.map_congr_left fun x hx => by rw [hG' x hx]
    rw [List.map_append, List.map_singleton, hGe, h1]
  refine ⟨d1, updG G e.2 ((G e.2).1, (G e.2).2.take v), (G e.2).1 - 1 + v, ?_, hend, hle, ?_, c6.mono (by omega)⟩
  · unfold openL
    rw [if_neg (by omega), hn]
    simp only [Bool.not_true, Bool.false_eq_true, if_false]
    rw [hnow, numbers_of (all := all) (size := size) (F := 0) (D := D) (fs := d.file) (G := G) fun x hx => ⟨hw.names x hx, hlt x hx⟩, hlook]
    have hg2 : ((w.map fun e => sgOf (G e.2)) ++ [sgOf ((G e.2).1, (G e.2).2.take v)]).getLast? = some (sgOf ((G e.2).1, (G e.2).2.take v)) := by simp
    simp only [hme, ne_eq, not_true_eq_false, if_false, hg2, ht]
    rw [hnow1, logOf, hmapw]
    simp
  · have hL : (all.take ((G e.2).1 - 1 + v)).length = (G e.2).1 - 1 + v := by rw [List.length_take]; omega
    refine ⟨c1, c2, by rw [c3, hnow1], ?_, ?_, fun h0 => by rw [hnow1] at h0; simp at h0, ?_⟩
    · rw [hL, hnow1]
      have hwy : WayIs name (all.take ((G e.2).1 - 1 + v)) size F D (updG G e.2 ((G e.2).1, (G e.2).2.take v)) d1.file (w ++ [e]) := by
        refine way_up hw fun x hx => ?_
        rcases List.mem_append.1 hx with hx | hx
        · have h1 := hmid x hx
          have hps := (hw.file x (by simp [hx])).pos
          rw [hG' x hx, hf1 x hx]
          refine ⟨rfl, fun m => ⟨m, rfl⟩, Nat.le_refl _, (hw.file x (by simp [hx])).less ?_ hle⟩
          rw [h1.1.whole, visF_all]
          omega
        · rw [List.mem_singleton.1 hx, hGe, hf1e]
          have hva : visF ((G e.2).1, (G e.2).2.take v) (strB ((G e.2).1, (G e.2).2.take v)).length = v := by rw [visF_all]; exact hlen
          refine ⟨rfl, fun m => ?_, ?_, ⟨List.prefix_refl _, Nat.le_refl _, fun b hb => hfe.short b (List.mem_of_mem_take hb), hpos, ?_, ?_⟩⟩
          · have h1 := m.whole
            have h2 : v = (G e.2).2.length := by rw [← hvv, h1, visF_all]
            have h3 : ((G e.2).1, (G e.2).2.take v) = G e.2 := by rw [h2, List.take_length]
            rw [h3]
            exact ⟨⟨rfl, rfl, by show size ≤ (strB (G e.2)).length; rw [← h1]; exact m.size, m.ne⟩, rfl⟩
          · show _ ≤ visF _ (strB ((G e.2).1, (G e.2).2.take v)).length
            rw [hva, hfast e hm, hvv]
            exact Nat.le_refl _
          · show (G e.2).1 - 1 + visF _ (strB ((G e.2).1, (G e.2).2.take v)).length ≤ _
            rw [hva, hL]
            exact Nat.le_refl _
          · show ((G e.2).2.take v).take (visF _ (strB ((G e.2).1, (G e.2).2.take v)).length) = List.take (visF _ (strB ((G e.2).1, (G e.2).2.take v)).length) _
            rw [hva, List.take_take, Nat.min_self]
            have h1 := hfe.same
            rw [hvv] at h1
            rw [h1, List.drop_take, List.take_take, show (G e.2).1 - 1 + v - ((G e.2).1 - 1) = v by omega, Nat.min_self]
      refine hwy.fastUp hend ?_ (fun h0 => by simp at h0)
      intro q y hy
      have he := List.singleton_inj.1 (List.append_inj_right' hy rfl)
      rw [← he, hGe, hf1e]
      show _ ≤ _ + visF _ (strB ((G e.2).1, (G e.2).2.take v)).length
      rw [visF_all]
      show _ ≤ (G e.2).1 - 1 + ((G e.2).2.take v).length
      rw [hlen]
      exact Nat.le_refl _
    · intro x hx
      rw [hnow1] at hx
      rcases List.mem_append.1 hx with hx | hx
      · rw [hG' x hx, hf1 x hx]
        have h1 := hmid x hx
        exact ⟨h1.1.whole, h1.1.ne, h1.1.fast⟩
      · rw [List.mem_singleton.1 hx, hGe, hf1e]
        exact ⟨rfl, fun h0 => by have := congrArg List.length h0; simp only [hlen, List.length_nil] at this; omega, rfl⟩
    · intro q y hy
      rw [hnow1] at hy
      have he := List.singleton_inj.1 (List.append_inj_right' hy rfl)
      rw [← he, hGe, hL]
      show (G e.2).1 + ((G e.2).2.take v).length = _
      rw [hlen]; omega

end Ab
end Go.Proofs.YtmbbnoipoifhhaaGreatDoor

/-
  DERIVED. A crash, and the log opened anew: what was committed is there; a disk that does not stop. In plain Lean.
  Conditions: none of a program's.
-/
namespace Go.Proofs.YtmbbnoipoifhhaaGreatDoor
namespace Ab
set_option linter.all false
set_option maxRecDepth 100000

def Calm (d : Dk) : Prop := d.dead = false ∧ d.left = 0

theorem crash_open {n : Nat} {all : List Bs} {D : Nat} {l : Lg} {d : Dk} (h : LInv n all D l d) (hall : all.length + 1 < W64) (hs : 64 ≤ l.size ∧ l.size ≤ 4194304) (keeps : List Int) (names : Int) :
    ∃ d' l', openL (d.crash keeps names) l.name l.size = (0, d', some l') ∧ l'.name = l.name ∧ l'.size = l.size ∧ l.fast ≤ l'.last ∧ l'.last ≤ all.length ∧ LInv (n + 3) (all.take l'.last) D l' d' ∧ Calm d' ∧ l'.fast = l'.last ∧ openL d' l.name l.size = (0, d', some l') := by
  obtain ⟨G, hc, _⟩ := h.is
  have hI := h.inv.crash keeps names
  obtain ⟨w, c1, c2, c3, c4, c5⟩ := crash_way h.inv hc keeps names
  generalize d.crash keeps names = d1 at *
  have hnow : d1.now = w := by rw [Dk.now, c1]; rfl
  -- what is said of an opened one
  have fin : ∀ (d' : Dk) (G' : Gh) (L : Nat), openL d1 l.name l.size = (0, d', some (logOf l.name l.size G' d'.now L)) → l.fast ≤ L → L ≤ all.length → Clean l.name (all.take L) l.size D d' G' → d'.Inv (n + 3) →
      ∃ d' l', openL d1 l.name l.size = (0, d', some l') ∧ l'.name = l.name ∧ l'.size = l.size ∧ l.fast ≤ l'.last ∧ l'.last ≤ all.length ∧ LInv (n + 3) (all.take l'.last) D l' d' ∧ Calm d' ∧ l'.fast = l'.last ∧ openL d' l.name l.size = (0, d', some l') := by
    intro d' G' L h1 h2 h3 h4 h5
    have hL : (all.take L).length = L := by rw [List.length_take]; omega
    have h6 := h4.inv h5 h.named (by rw [hL]; have := h.few; omega)
    have h7 := open_clean h4 h5 h.named (by rw [hL]; omega) hs
    rw [hL] at h6 h7
    exact ⟨d', _, h1, rfl, rfl, h2, h3, h6, ⟨h4.dead, h4.left⟩, rfl, h7⟩
  rcases List.eq_nil_or_concat w with h0 | ⟨q, e, h0⟩
  · have hF := c2.none h0
    have hcl : Clean l.name (all.take 0) l.size D d1 G := by
      refine ⟨c4, c5, by rw [c1, hnow], ?_, ?_, fun _ => rfl, ?_⟩
      · rw [hnow, h0]
        exact ⟨fun e he => absurd he (by simp), fun e he => absurd he (by simp), trivial, fun _ => rfl, fun e he => by simp at he, fun e he => by simp at he⟩
      · intro e he
        rw [hnow, h0] at he
        simp at he
      · intro q e he
        rw [hnow, h0] at he
        simp at he
    have h7 := open_clean hcl hI h.named (by simp; simp [W64]) hs
    refine fin d1 G 0 ?_ (by omega) (Nat.zero_le _) hcl (hI.mono (by omega))
    rw [h7]
    rfl
  · rw [List.concat_eq_append] at h0
    subst h0
    by_cases hv : visF (G e.2) (d1.file e.2).b.length = 0
    · obtain ⟨d', L, g1, g2, g3, g4, g5⟩ := open_short hI h.named hall hs c4 c5 hnow c2 c3 hv
      exact fin d' G L g1 g2 g3 g4 (g5.mono (by omega))
    · obtain ⟨d', G', L, g1, g2, g3, g4, g5⟩ := open_long hI h.named hall hs c4 c5 c1 c2 c3 (by omega)
      exact fin d' G' L g1 g2 g3 g4 (g5.mono (by omega))

/-- The disk told to stop: it is not dead yet. -/
theorem LInv.stop {n : Nat} {all : List Bs} {D : Nat} {l : Lg} {d : Dk} (h : LInv n all D l d) (hd : d.dead = false) (k : Int) (hk : -9223372036854775808 ≤ k ∧ k ≤ 9223372036854775807) : LInv (n + 1) all D l (d.stop k) := by
  obtain ⟨G, hc, hl | hg⟩ := h.is
  · exact ⟨h.inv.stop k hk, h.named, by have := h.few; omega, h.tale, h.fast, G, hc.same rfl rfl, .inl ⟨rfl, hl.segs, hl.whole⟩⟩
  · rw [hg.1] at hd
    cases hd

theorem calm_goes {d : Dk} {f : Dk → Dk} (h : Calm d) (hf : Calm (f d)) : Calm (d.goes f).2 := by rw [goes_calm h.1 h.2]; exact hf
theorem calm_at {d : Dk} {s : Bs} {f : Nat → Int × Dk} (h : Calm d) (hf : ∀ i, Calm (f i).2) : Calm (d.at s f).2 := by
  unfold Dk.at
  split
  · exact h
  · split
    · exact h
    · exact hf _
theorem calm_sync {d : Dk} {s : Bs} (h : Calm d) : Calm (d.sync s).2 := calm_at h fun i => calm_goes h h
theorem calm_remove {d : Dk} {s : Bs} (h : Calm d) : Calm (d.remove s).2 := calm_at h fun i => calm_goes h h
theorem calm_syncNames {d : Dk} (h : Calm d) : Calm d.syncNames.2 := calm_goes h h
theorem calm_create {d : Dk} {s : Bs} (h : Calm d) : Calm (d.create s).2 := by
  unfold Dk.create
  split
  · exact h
  · split
    · exact h
    · split
      · exact h
      · exact calm_goes h h
theorem calm_append {d : Dk} {s b : Bs} (h : Calm d) : Calm (d.append s b).2 := by
  have h1 : d.stop1 = d := by simp [Dk.stop1, h.1, h.2]
  refine calm_at h fun i => ?_
  rw [h1]
  split
  · exact h
  · rw [if_neg (by simp [h.1]), if_neg (by rw [h.2]; decide)]
    exact h
theorem calm_syncLast {l : Lg} {d : Dk} (h : Calm d) : Calm (syncLast l d).2 := by
  unfold syncLast
  split
  · exact calm_sync h
  · exact h
theorem calm_begins {l : Lg} {d : Dk} {no : Nat} {b : Bs} (h : Calm d) : Calm (l.begins d no b).2.1 := by
  unfold Lg.begins
  split
  · exact calm_syncLast h
  · split
    · exact calm_create (calm_syncLast h)
    · split
      · exact calm_remove (calm_append (calm_create (calm_syncLast h)))
      · exact calm_append (calm_create (calm_syncLast h))
theorem calm_lappend {l : Lg} {d : Dk} {b : Bs} (h : Calm d) : Calm (l.append d b).2.2.1 := by
  unfold Lg.append
  split
  · exact h
  · split
    · split
      · split
        · exact calm_append h
        · exact calm_append h
      · split
        · exact calm_begins h
        · exact calm_begins h
    · split
      · exact calm_begins h
      · exact calm_begins h
theorem calm_commit {l : Lg} {d : Dk} (h : Calm d) : Calm (l.commit d).2.1 := by
  unfold Lg.commit
  split
  · exact calm_syncLast h
  · split
    · exact calm_syncNames (calm_syncLast h)
    · exact calm_syncNames (calm_syncLast h)
theorem calm_dropL {name : Bs} {upto : Nat} : ∀ {segs : List Sg} {d : Dk}, Calm d → Calm (dropL name upto segs d).2.1
  | [], d, h => by
    rw [dropL]
    · exact calm_syncNames h
    · intro _ _ _ h; cases h
  | [s], d, h => by
    rw [dropL]
    · exact calm_syncNames h
    · intro _ _ _ h; cases h
  | s :: s' :: r, d, h => by
    rw [dropL]
    split
    · split
      · exact calm_remove h
      · exact calm_dropL (calm_remove h)
    · exact calm_syncNames h
theorem calm_drop {l : Lg} {d : Dk} {upto : Nat} (h : Calm d) : Calm (l.drop d upto).2.1 := by
  unfold Lg.drop
  split
  · exact calm_commit h
  · exact calm_dropL (calm_commit h)

end Ab
end Go.Proofs.YtmbbnoipoifhhaaGreatDoor

/-
  DERIVED. What was committed is there behind every crash: the law's steps, in plain Lean.
  Conditions: none of a program's.
-/
namespace Go.Proofs.YtmbbnoipoifhhaaGreatDoor
namespace Ab
set_option linter.all false
set_option maxRecDepth 100000

theorem number_app : ∀ (a b : List Bs) (n : Nat), numberRecs n (a ++ b) = numberRecs n a ++ numberRecs (n + a.length) b
  | [], b, n => by simp [numberRecs]
  | x :: a, b, n => by
    rw [List.cons_append, numberRecs, numberRecs, number_app a b (n + 1), List.cons_append, List.length_cons, show n + 1 + a.length = n + (a.length + 1) by omega]
theorem segs_numbers {all : List Bs} : ∀ {segs : List Sg} {n : Nat}, 1 ≤ n → SegsAre all n segs → (segs.map fun s => numberRecs s.no s.recs).flatten = numberRecs n (all.drop (n - 1))
  | [], n, hn, h => by
    simp only [SegsAre] at h
    subst h
    simp [numberRecs]
  | s :: r, n, hn, h => by
    obtain ⟨h1, h2, h3, h4⟩ := h
    have hp : 0 < s.recs.length := List.length_pos_iff.2 h2
    have ih := segs_numbers (by omega) h4
    obtain ⟨q, hq⟩ := h3
    have hd : all.drop (n + s.recs.length - 1) = q := by
      rw [show n + s.recs.length - 1 = (n - 1) + s.recs.length by omega, ← List.drop_drop, ← hq, List.drop_left]
    rw [List.map_cons, List.flatten_cons, ih, hd, h1, ← number_app, hq]

/-- What a log tells of itself. -/
theorem tale_first {all : List Bs} {D : Nat} {l : Lg} (h : Tale all D l) (hall : all.length + 1 < W64) : 1 ≤ l.first ∧ l.first ≤ all.length + 1 ∧ l.first ≤ D + 1 ∧ SegsAre all l.first l.segs := by
  obtain ⟨k, hk, hk0, hsa, hkD⟩ := h.are
  have hle := (segs_all hk hsa).2
  have hf : l.first = k := by
    unfold Lg.first
    cases hs : l.segs with
    | nil =>
      rw [hs] at hsa
      simp only [SegsAre] at hsa
      simp only [h.last]
      rw [Nat.mod_eq_of_lt hall]
      exact hsa.symm
    | cons s r =>
      rw [hs] at hsa
      exact hsa.1
  rw [hf]
  exact ⟨hk, by omega, hkD, hsa⟩
theorem tale_read {all : List Bs} {D : Nat} {l : Lg} (h : Tale all D l) (hall : all.length + 1 < W64) :
    l.read l.first (all.length : Nat) = (0, (List.range (all.length + 1 - l.first)).map fun i => (l.first + i, (all.drop (l.first - 1))[i]?.getD [])) := by
  obtain ⟨h1, h2, h3, h4⟩ := tale_first h hall
  have hn := segs_numbers h1 h4
  have hl : (all.drop (l.first - 1)).length = all.length + 1 - l.first := by rw [List.length_drop]; omega
  have hr := number_recs (all.drop (l.first - 1)) l.first (by rw [hl]; omega)
  rw [hl] at hr
  unfold Lg.read
  rw [if_neg (by rw [h.last]; omega)]
  have ha : l.all = (List.range (all.length + 1 - l.first)).map fun i => (l.first + i, (all.drop (l.first - 1))[i]?.getD []) := by
    rw [Lg.all, hn, hr]
  rw [ha]
  congr 1
  rw [List.filter_eq_self.2, List.take_of_length_le]
  · simp; omega
  · intro e he
    rw [List.mem_map] at he
    obtain ⟨i, hi, rfl⟩ := he
    simp

theorem LInv.dropUp {n : Nat} {all : List Bs} {D D' : Nat} {l : Lg} {d : Dk} (h : LInv n all D l d) (hD : D ≤ D') : LInv n all D' l d := by
  obtain ⟨G, hc, hr⟩ := h.is
  obtain ⟨k, hk, hk0, hsa, hkD⟩ := h.tale.are
  exact ⟨h.inv, h.named, h.few, ⟨h.tale.last, k, hk, hk0, hsa, by omega⟩, h.fast, G, fun w hw => (hc w hw).dropUp hD, hr⟩

/-- A drop. -/
theorem drop_ok {n : Nat} {all : List Bs} {D upto : Nat} {l : Lg} {d : Dk} (h : LInv n all D l d) (hall : all.length < W64) (hu : upto ≤ D) :
    ((l.drop d upto).1 = 0 ∨ (l.drop d upto).1 = 44) ∧ LInv (n + 70) all D (l.drop d upto).2.2 (l.drop d upto).2.1 ∧ (l.drop d upto).2.2.name = l.name ∧ (l.drop d upto).2.2.size = l.size := by
  unfold Lg.drop
  rcases commit_ok h with ⟨c1, c2, c3⟩ | ⟨c1, c2, c3, G, c4, c5, c6, c7⟩
  · have z : (l.commit d).1 ≠ 0 := by rw [c1]; decide
    rw [if_pos z, c3]
    exact ⟨.inr c1, c2.mono (by omega), rfl, rfl⟩
  · have z : ¬ (l.commit d).1 ≠ 0 := by rw [c1]; simp
    rw [if_neg z]
    have hlast := h.tale.last
    have h1 := dropL_ok hu hall (l := (l.commit d).2.2) rfl c2 c4 (by rw [c3]; show Core l.name all l.size l.last D _ G; rw [hlast]; exact c5) (by rw [c3]; exact hlast)
    have hseg : (l.commit d).2.2.segs.length ≤ 64 := by
      rw [c4.segs, List.length_map]
      exact (c2.inv.way _ (nowW_mem c2.inv.ne)).1
    rw [c3] at h1 hseg ⊢
    refine ⟨h1.1, ?_, rfl, rfl⟩
    have := h1.2
    exact this.mono (by simp only at hseg ⊢; omega)

theorem segs_few {n : Nat} {all : List Bs} {D : Nat} {l : Lg} {d : Dk} (h : LInv n all D l d) : l.segs.length ≤ n := by
  obtain ⟨k, hk, hk0, hsa, hkD⟩ := h.tale.are
  have gen : ∀ (segs : List Sg) (n : Nat), 1 ≤ n → SegsAre all n segs → segs.length + n ≤ all.length + 1 := by
    intro segs
    induction segs with
    | nil => intro n _ h; simp only [SegsAre] at h; simp; omega
    | cons s r ih =>
      intro n hn h
      obtain ⟨h1, h2, h3, h4⟩ := h
      have hp : 0 < s.recs.length := List.length_pos_iff.2 h2
      have := ih _ (by omega) h4
      simp only [List.length_cons]
      omega
  have := gen _ _ hk hsa
  have := h.few
  omega

/-- A call of the law: what it comes to. -/
structure CAct where
  kind : Int
  most : Int
  names : Int
  b : Bs
  no : Nat
  keeps : List Int
structure CSt where
  d : Dk
  l : Lg
  all : List Bs
  dropped : Nat
  stopping : Bool
def CSt.step (s : CSt) (a : CAct) : CSt :=
  if a.kind = 0 then
    (if (s.l.append s.d a.b).1 ≠ 0 then { s with d := (s.l.append s.d a.b).2.2.1, l := (s.l.append s.d a.b).2.2.2 } else { s with d := (s.l.append s.d a.b).2.2.1, l := (s.l.append s.d a.b).2.2.2, all := s.all ++ [a.b] })
  else if a.kind = 1 then { s with d := (s.l.commit s.d).2.1, l := (s.l.commit s.d).2.2 }
  else if a.kind = 3 then { s with d := (s.l.drop s.d (a.no % (s.all.length + 2))).2.1, l := (s.l.drop s.d (a.no % (s.all.length + 2))).2.2, dropped := max s.dropped (a.no % (s.all.length + 2)) }
  else if a.kind = 6 then (if s.stopping = false ∧ 1 ≤ a.most then { s with d := s.d.stop a.most, stopping := true } else s)
  else if a.kind = 4 then (match openL (s.d.crash a.keeps a.names) s.l.name s.l.size with
    | (_, d', some l') => { s with d := d', l := l', all := s.all.take l'.last, stopping := false }
    | (_, d', none) => { s with d := d' })
  else s
structure CInv (n : Nat) (s : CSt) : Prop where
  inv : LInv n s.all s.dropped s.l s.d
  size : 64 ≤ s.l.size ∧ s.l.size ≤ 4194304
  calm : s.stopping = false → Calm s.d

theorem CInv.step {n : Nat} {s : CSt} (h : CInv n s) (hn : n + 10 < W64) (a : CAct) (ha : -9223372036854775808 ≤ a.most ∧ a.most ≤ 9223372036854775807) : CInv (n + 70) (s.step a) := by
  have hfew := h.inv.few
  unfold CSt.step
  split
  · have hap := append_ok h.inv (by omega) a.b
    have hkeep : (s.l.append s.d a.b).2.2.2.size = s.l.size := by
      unfold Lg.append
      repeat' split
      all_goals first | rfl | skip
      all_goals
        unfold Lg.begins
        repeat' split
        all_goals rfl
    rcases hap with ⟨h1, h2, h3, h4⟩ | ⟨h1, h2, h3⟩
    · rw [if_neg (by rw [h1]; simp)]
      exact ⟨h4.mono (by omega), by show 64 ≤ (s.l.append s.d a.b).2.2.2.size ∧ _; rw [hkeep]; exact h.size, fun hs => calm_lappend (h.calm hs)⟩
    · rw [if_pos h1]
      exact ⟨h3.mono (by omega), by show 64 ≤ (s.l.append s.d a.b).2.2.2.size ∧ _; rw [hkeep]; exact h.size, fun hs => calm_lappend (h.calm hs)⟩
  split
  · rcases commit_ok h.inv with ⟨c1, c2, c3⟩ | ⟨c1, c2, c3, _⟩
    · exact ⟨by show LInv _ _ _ (s.l.commit s.d).2.2 _; rw [c3]; exact c2.mono (by omega), by show 64 ≤ (s.l.commit s.d).2.2.size ∧ _; rw [c3]; exact h.size, fun hs => calm_commit (h.calm hs)⟩
    · exact ⟨c2.mono (by omega), by show 64 ≤ (s.l.commit s.d).2.2.size ∧ _; rw [c3]; exact h.size, fun hs => calm_commit (h.calm hs)⟩
  split
  · have hu : a.no % (s.all.length + 2) ≤ max s.dropped (a.no % (s.all.length + 2)) := Nat.le_max_right _ _
    have hd := drop_ok (h.inv.dropUp (Nat.le_max_left s.dropped (a.no % (s.all.length + 2)))) (by omega) hu
    exact ⟨hd.2.1.mono (by omega), by show 64 ≤ (s.l.drop s.d _).2.2.size ∧ _; rw [hd.2.2.2]; exact h.size, fun hs => calm_drop (h.calm hs)⟩
  split
  · split
    · rename_i hs
      exact ⟨(h.inv.stop (h.calm hs.1).1 _ ha).mono (by omega), h.size, fun hs => by cases hs⟩
    · exact ⟨h.inv.mono (by omega), h.size, h.calm⟩
  split
  · obtain ⟨d', l', g1, g2, g3, g4, g5, g6, g7, g8, g9⟩ := crash_open h.inv (by omega) h.size a.keeps a.names
    rw [g1]
    exact ⟨g6.mono (by omega), by show 64 ≤ l'.size ∧ _; rw [g3]; exact h.size, fun _ => g7⟩
  · exact ⟨h.inv.mono (by omega), h.size, h.calm⟩

end Ab
end Go.Proofs.YtmbbnoipoifhhaaGreatDoor

/-
  DERIVED. How many files and open ways there are behind so many calls. In plain Lean.
  Conditions: none of a program's.
-/
namespace Go.Proofs.YtmbbnoipoifhhaaGreatDoor
namespace Ab
set_option linter.all false
set_option maxRecDepth 100000

def Cnt (d : Dk) (f w : Nat) : Prop := d.files.length ≤ f ∧ d.ways.length ≤ w
theorem Cnt.mono {d : Dk} {f w f' w' : Nat} (h : Cnt d f w) (hf : f ≤ f') (hw : w ≤ w') : Cnt d f' w' := ⟨Nat.le_trans h.1 hf, Nat.le_trans h.2 hw⟩
theorem cnt_stop1 {d : Dk} {f w : Nat} (h : Cnt d f w) : Cnt d.stop1 f w := ⟨by rw [(stop1_same d).1]; exact h.1, by rw [(stop1_same d).2.1]; exact h.2⟩
theorem cnt_goes {d : Dk} {g : Dk → Dk} {f w f' w' : Nat} (h : Cnt d f w) (hf : f ≤ f') (hw : w ≤ w') (hg : Cnt d.stop1 f w → Cnt (g d.stop1) f' w') : Cnt (d.goes g).2 f' w' := by
  unfold Dk.goes
  split
  · exact (cnt_stop1 h).mono hf hw
  · exact hg (cnt_stop1 h)
theorem cnt_at {d : Dk} {s : Bs} {g : Nat → Int × Dk} {f w f' w' : Nat} (h : Cnt d f w) (hf : f ≤ f') (hw : w ≤ w') (hg : ∀ i, Cnt (g i).2 f' w') : Cnt (d.at s g).2 f' w' := by
  unfold Dk.at
  split
  · exact h.mono hf hw
  · split
    · exact h.mono hf hw
    · exact hg _
theorem cnt_setF {d : Dk} {i : Nat} {x : Fl} {f w : Nat} (h : Cnt d f w) : Cnt (d.setF i x) f w := ⟨by simpa [Dk.setF] using h.1, h.2⟩
theorem cnt_with {d : Dk} {v : Way} {f w : Nat} (h : Cnt d f w) : Cnt (d.with v) f (w + 1) := ⟨h.1, by have := h.2; simp [Dk.with]; omega⟩
theorem cnt_sync {d : Dk} {s : Bs} {f w : Nat} (h : Cnt d f w) : Cnt (d.sync s).2 f w := cnt_at h (Nat.le_refl _) (Nat.le_refl _) fun i => cnt_goes h (Nat.le_refl _) (Nat.le_refl _) fun h => cnt_setF h
theorem cnt_remove {d : Dk} {s : Bs} {f w : Nat} (h : Cnt d f w) : Cnt (d.remove s).2 f (w + 1) := cnt_at h (Nat.le_refl _) (by omega) fun i => cnt_goes h (Nat.le_refl _) (by omega) fun h => cnt_with h
theorem cnt_cut {d : Dk} {s : Bs} {n : Int} {f w : Nat} (h : Cnt d f w) : Cnt (d.cut s n).2 f w := cnt_at h (Nat.le_refl _) (Nat.le_refl _) fun i => by
  split
  · exact h
  · exact cnt_goes h (Nat.le_refl _) (Nat.le_refl _) fun h => cnt_setF h
theorem cnt_syncNames {d : Dk} {f w : Nat} (h : Cnt d f w) (hw : 1 ≤ w) : Cnt d.syncNames.2 f w := cnt_goes h (Nat.le_refl _) (Nat.le_refl _) fun h => ⟨h.1, by simpa using hw⟩
theorem cnt_create {d : Dk} {s : Bs} {f w : Nat} (h : Cnt d f w) : Cnt (d.create s).2 (f + 1) (w + 1) := by
  unfold Dk.create
  split
  · exact h.mono (by omega) (by omega)
  · split
    · exact h.mono (by omega) (by omega)
    · split
      · exact h.mono (by omega) (by omega)
      · refine cnt_goes h (by omega) (by omega) fun h => cnt_with ⟨?_, h.2⟩
        have := h.1
        have e := congrArg List.length (stop1_same d).1
        simp
        omega
theorem cnt_append {d : Dk} {s b : Bs} {f w : Nat} (h : Cnt d f w) : Cnt (d.append s b).2 f w := by
  refine cnt_at h (Nat.le_refl _) (Nat.le_refl _) fun i => ?_
  split
  · exact h
  · split
    · exact h
    · split
      · exact cnt_setF (cnt_stop1 h)
      · exact cnt_setF (cnt_stop1 h)
theorem cnt_syncLast {l : Lg} {d : Dk} {f w : Nat} (h : Cnt d f w) : Cnt (syncLast l d).2 f w := by
  unfold syncLast
  split
  · exact cnt_sync h
  · exact h
theorem cnt_begins {l : Lg} {d : Dk} {no : Nat} {b : Bs} {f w : Nat} (h : Cnt d f w) : Cnt (l.begins d no b).2.1 (f + 1) (w + 2) := by
  unfold Lg.begins
  split
  · exact (cnt_syncLast h).mono (by omega) (by omega)
  · split
    · exact (cnt_create (cnt_syncLast h)).mono (by omega) (by omega)
    · split
      · exact cnt_remove (cnt_append (cnt_create (cnt_syncLast h)))
      · exact (cnt_append (cnt_create (cnt_syncLast h))).mono (by omega) (by omega)
theorem cnt_lappend {l : Lg} {d : Dk} {b : Bs} {f w : Nat} (h : Cnt d f w) : Cnt (l.append d b).2.2.1 (f + 1) (w + 2) := by
  unfold Lg.append
  split
  · exact h.mono (by omega) (by omega)
  · split
    · split
      · split
        · exact (cnt_append h).mono (by omega) (by omega)
        · exact (cnt_append h).mono (by omega) (by omega)
      · split
        · exact cnt_begins h
        · exact cnt_begins h
    · split
      · exact cnt_begins h
      · exact cnt_begins h
theorem cnt_commit {l : Lg} {d : Dk} {f w : Nat} (h : Cnt d f w) (hw : 1 ≤ w) : Cnt (l.commit d).2.1 f w := by
  unfold Lg.commit
  split
  · exact cnt_syncLast h
  · split
    · exact cnt_syncNames (cnt_syncLast h) hw
    · exact cnt_syncNames (cnt_syncLast h) hw
theorem cnt_dropL {name : Bs} {upto : Nat} : ∀ {segs : List Sg} {d : Dk} {f w : Nat}, Cnt d f w → 1 ≤ w → Cnt (dropL name upto segs d).2.1 f (w + segs.length)
  | [], d, f, w, h, hw => by
    rw [dropL]
    · exact (cnt_syncNames h hw).mono (Nat.le_refl _) (by omega)
    · intro _ _ _ h; cases h
  | [s], d, f, w, h, hw => by
    rw [dropL]
    · exact (cnt_syncNames h hw).mono (Nat.le_refl _) (by omega)
    · intro _ _ _ h; cases h
  | s :: s' :: r, d, f, w, h, hw => by
    rw [dropL]
    split
    · split
      · exact (cnt_remove h).mono (Nat.le_refl _) (by simp only [List.length_cons]; omega)
      · have := cnt_dropL (name := name) (upto := upto) (segs := s' :: r) (cnt_remove (s := fileN name s.no) h) (by omega)
        exact this.mono (Nat.le_refl _) (by simp only [List.length_cons]; omega)
    · exact (cnt_syncNames h hw).mono (Nat.le_refl _) (by omega)
theorem cnt_drop {n : Nat} {all : List Bs} {D upto : Nat} {l : Lg} {d : Dk} {f w : Nat} (hL : LInv n all D l d) (h : Cnt d f w) (hw : 65 ≤ w) : Cnt (l.drop d upto).2.1 f w := by
  unfold Lg.drop
  rcases commit_ok hL with ⟨c1, c2, c3⟩ | ⟨c1, c2, c3, G, c4, c5, c6, c7⟩
  · have z : (l.commit d).1 ≠ 0 := by rw [c1]; decide
    rw [if_pos z]
    exact cnt_commit h (by omega)
  · have z : ¬ (l.commit d).1 ≠ 0 := by rw [c1]; simp
    rw [if_neg z]
    have hseg : (l.commit d).2.2.segs.length ≤ 64 := by
      rw [c4.segs, List.length_map]
      exact (c2.inv.way _ (nowW_mem c2.inv.ne)).1
    have h1 : Cnt (l.commit d).2.1 f 1 := ⟨(cnt_commit h (by omega)).1, by rw [c6]; simp⟩
    exact (cnt_dropL h1 (Nat.le_refl _)).mono (Nat.le_refl _) (by omega)
theorem LInv.rebase {n m : Nat} {all : List Bs} {D : Nat} {l : Lg} {d : Dk} (h : LInv n all D l d) (hc : Cnt d m (m + 1)) (ha : all.length ≤ m) : LInv m all D l d :=
  { h with inv := ⟨h.inv.quota, hc.1, hc.2, h.inv.ne, h.inv.way, h.inv.file, h.inv.left⟩, few := ha }

end Ab
end Go.Proofs.YtmbbnoipoifhhaaGreatDoor

/-
  DERIVED. The steps of LogCrash, counted. In plain Lean.
  Conditions: none of a program's.
-/
namespace Go.Proofs.YtmbbnoipoifhhaaGreatDoor
namespace Ab
set_option linter.all false
set_option maxRecDepth 100000

theorem cnt_syncs {name : Bs} : ∀ {segs : List Sg} {d : Dk} {f w : Nat}, Cnt d f w → 1 ≤ w → Cnt (syncsL name segs d).2 f w
  | [], d, f, w, h, hw => cnt_syncNames h hw
  | s :: r, d, f, w, h, hw => by
    rw [syncsL]
    split
    · exact cnt_sync h
    · exact cnt_syncs (cnt_sync h) hw
theorem cnt_mends {name : Bs} {d : Dk} {segs : List Sg} {a b : Bool} {f w : Nat} (h : Cnt d f w) (hw : 1 ≤ w) : Cnt (mendsL d name segs a b).2.1 f (w + 1) := by
  unfold mendsL
  split
  · exact (cnt_syncs h hw).mono (Nat.le_refl _) (by omega)
  · split
    · split
      · exact cnt_remove h
      · exact cnt_syncs (cnt_remove h) (by omega)
    · split
      · split
        · exact (cnt_cut h).mono (Nat.le_refl _) (by omega)
        · exact (cnt_syncs (cnt_cut h) hw).mono (Nat.le_refl _) (by omega)
      · exact (cnt_syncs h hw).mono (Nat.le_refl _) (by omega)
theorem cnt_open {name : Bs} {d : Dk} {size : Int} {f w : Nat} (h : Cnt d f w) (hw : 1 ≤ w) : Cnt (openL d name size).2.1 f (w + 1) := by
  unfold openL
  split
  · exact h.mono (Nat.le_refl _) (by omega)
  · split
    · exact h.mono (Nat.le_refl _) (by omega)
    · split
      · exact h.mono (Nat.le_refl _) (by omega)
      · split
        · exact cnt_mends h hw
        · exact cnt_mends h hw
theorem cnt_crash {d : Dk} {keeps : List Int} {names : Int} {f w : Nat} (h : Cnt d f w) : Cnt (d.crash keeps names) f 1 := by
  refine ⟨?_, by simp [Dk.crash]⟩
  show (crashF keeps _ 0 d.files).length ≤ f
  rw [crashF_len]
  exact h.1

structure CIn (k : Nat) (s : CSt) : Prop where
  base : CInv (2 * k + 70) s
  cnt : Cnt s.d k (2 * k + 66)
  few : s.all.length ≤ k

theorem CSt.cnt_step {k n : Nat} {s : CSt} (h : CInv n s) (hc : Cnt s.d k (2 * k + 66)) (hf : s.all.length ≤ k) (a : CAct) : Cnt (s.step a).d (k + 1) (2 * k + 68) ∧ (s.step a).all.length ≤ k + 1 := by
  unfold CSt.step
  split
  · split
    · exact ⟨cnt_lappend hc, Nat.le_trans hf (by omega)⟩
    · refine ⟨cnt_lappend hc, ?_⟩
      simp
      omega
  split
  · exact ⟨(cnt_commit hc (by omega)).mono (by omega) (by omega), Nat.le_trans hf (by omega)⟩
  split
  · exact ⟨(cnt_drop h.inv hc (by omega)).mono (by omega) (by omega), Nat.le_trans hf (by omega)⟩
  split
  · split
    · exact ⟨Cnt.mono (show Cnt (s.d.stop a.most) k (2 * k + 66) from hc) (by omega) (by omega), Nat.le_trans hf (by omega)⟩
    · exact ⟨hc.mono (by omega) (by omega), Nat.le_trans hf (by omega)⟩
  split
  · have ho := cnt_open (name := s.l.name) (size := (s.l.size : Nat)) (cnt_crash (keeps := a.keeps) (names := a.names) hc) (Nat.le_refl _)
    split
    · rename_i e d' l' heq
      rw [heq] at ho
      refine ⟨ho.mono (by omega) (by omega), ?_⟩
      simp
      omega
    · rename_i e d' heq
      rw [heq] at ho
      exact ⟨ho.mono (by omega) (by omega), Nat.le_trans hf (by omega)⟩
  · exact ⟨hc.mono (by omega) (by omega), Nat.le_trans hf (by omega)⟩

theorem CIn.step {k : Nat} {s : CSt} (h : CIn k s) (hk : 2 * k + 80 < W64) (a : CAct) (ha : -9223372036854775808 ≤ a.most ∧ a.most ≤ 9223372036854775807) : CIn (k + 1) (s.step a) := by
  have h1 := h.base.step (by omega) a ha
  obtain ⟨h2, h3⟩ := CSt.cnt_step h.base h.cnt h.few a
  exact ⟨⟨h1.inv.rebase (h2.mono (by omega) (by omega)) (by omega), h1.size, h1.calm⟩, h2.mono (by omega) (by omega), h3⟩

end Ab
end Go.Proofs.YtmbbnoipoifhhaaGreatDoor

/-
  DERIVED. A spoilt byte tells: another hash. In plain Lean.
  Conditions: none of a program's.
-/
namespace Go.Proofs.YtmbbnoipoifhhaaGreatDoor
namespace Ab
set_option linter.all false
set_option maxRecDepth 100000

theorem mul_inj64 {a b : Nat} (ha : a < 18446744073709551616) (hb : b < 18446744073709551616) (h : a * 1099511628211 % 18446744073709551616 = b * 1099511628211 % 18446744073709551616) : a = b := by
  have key : ∀ x : Nat, x < 18446744073709551616 → (x * 1099511628211 % 18446744073709551616) * 14886173955864302971 % 18446744073709551616 = x := by
    intro x hx
    rw [Nat.mod_mul_mod, Nat.mul_assoc, show 1099511628211 * 14886173955864302971 = 1 + 18446744073709551616 * 887285111055 from rfl, Nat.mul_add, Nat.mul_one, show x * (18446744073709551616 * 887285111055) = 18446744073709551616 * (x * 887285111055) by rw [Nat.mul_left_comm], Nat.add_mul_mod_self_left, Nat.mod_eq_of_lt hx]
  have h1 := key a ha
  rw [h, key b hb] at h1
  exact h1.symm
theorem xor_lt64 {h : Nat} {x : UInt8} (hh : h < 18446744073709551616) : h ^^^ x.toNat < 18446744073709551616 := by
  have : x.toNat < 2 ^ 64 := Nat.lt_of_lt_of_le x.toNat_lt (by decide)
  exact Nat.xor_lt_two_pow (n := 64) hh this
theorem xor_right {a b x : Nat} (h : a ^^^ x = b ^^^ x) : a = b := by
  have h1 := congrArg (· ^^^ x) h
  simpa [Nat.xor_assoc, Nat.xor_self, Nat.xor_zero] using h1
theorem fnv1_lt (h : Nat) (x : UInt8) : fnv1 h x < 18446744073709551616 := Nat.mod_lt _ (by decide)
theorem fnv1_state {h k : Nat} {x : UInt8} (hh : h < 18446744073709551616) (hk : k < 18446744073709551616) (he : fnv1 h x = fnv1 k x) : h = k := by
  have := mul_inj64 (xor_lt64 hh) (xor_lt64 hk) he
  exact xor_right this
theorem fnv1_byte {h : Nat} {x y : UInt8} (hh : h < 18446744073709551616) (he : fnv1 h x = fnv1 h y) : x = y := by
  have := mul_inj64 (xor_lt64 hh) (xor_lt64 hh) he
  rw [Nat.xor_comm h, Nat.xor_comm h] at this
  exact UInt8.toNat_inj.1 (xor_right this)
theorem fold_lt : ∀ (b : Bs) (h : Nat), h < 18446744073709551616 → b.foldl fnv1 h < 18446744073709551616
  | [], h, hh => hh
  | x :: b, h, _ => fold_lt b _ (fnv1_lt h x)
theorem fold_state : ∀ (b : Bs) (h k : Nat), h < 18446744073709551616 → k < 18446744073709551616 → b.foldl fnv1 h = b.foldl fnv1 k → h = k
  | [], h, k, _, _, he => he
  | x :: b, h, k, hh, hk, he => fnv1_state hh hk (fold_state b _ _ (fnv1_lt h x) (fnv1_lt k x) he)
theorem fnv_lt (b : Bs) : fnv b < 18446744073709551616 := fold_lt b _ (by decide)
/-- One byte changed: another hash. -/
theorem fnv_change {a b : Bs} {x y : UInt8} (h : fnv (a ++ x :: b) = fnv (a ++ y :: b)) : x = y := by
  unfold fnv at h
  rw [List.foldl_append, List.foldl_append, List.foldl_cons, List.foldl_cons] at h
  have h1 := fold_lt a 14695981039346656037 (by decide)
  exact fnv1_byte h1 (fold_state b _ _ (fnv1_lt _ _) (fnv1_lt _ _) h)
theorem be_inj {k m n : Nat} (hm : m < 256 ^ k) (hn : n < 256 ^ k) (h : be k m = be k n) : m = n := by
  have h1 := congrArg numB h
  rw [num_be, num_be, Nat.mod_eq_of_lt hm, Nat.mod_eq_of_lt hn] at h1
  exact h1
theorem sum_change {no : Nat} {a b : Bs} {x y : UInt8} (h : sumB no (a ++ x :: b) = sumB no (a ++ y :: b)) : x = y := by
  unfold sumB at h
  have h1 := be_inj (k := 8) (fnv_lt _) (fnv_lt _) h
  have hl : (a ++ x :: b).length = (a ++ y :: b).length := by simp
  rw [hl, ← List.append_assoc, ← List.append_assoc] at h1
  exact fnv_change h1

/-- Reading stops at a record whose sum does not fit. -/
theorem read_bad : ∀ (pre : List Bs) (f no : Nat) (q rest : Bs) (n : Nat), (∀ b ∈ pre, b.length ≤ maxM) → n ≤ maxM → q.length = n + 12 → q.take 4 = be 4 n → (q.drop (4 + n)).take 8 ≠ sumB (no + pre.length) ((q.drop 4).take n) →
    readR f no (recsB no pre ++ q ++ rest) = pre.take f
  | pre, 0, no, q, rest, n, _, _, _, _, _ => by simp [readR]
  | [], f + 1, no, q, rest, n, _, hn, hl, h4, hs => by
    rw [recsB, List.nil_append, readR]
    have e1 : (q ++ rest).take 4 = be 4 n := by rw [List.take_append_of_le_length (by omega), h4]
    have e2 : numB ((q ++ rest).take 4) = n := by
      rw [e1, num_be, Nat.mod_eq_of_lt]
      have : n ≤ 65536 := hn
      omega
    rw [e2, if_neg (by simp; omega), if_neg (by intro h; rcases h with h | h; omega; simp at h; omega)]
    have e3 : ((q ++ rest).drop (4 + n)).take 8 = (q.drop (4 + n)).take 8 := by
      rw [List.drop_append_of_le_length (by omega), List.take_append_of_le_length (by rw [List.length_drop]; omega)]
    have e4 : ((q ++ rest).drop 4).take n = (q.drop 4).take n := by
      rw [List.drop_append_of_le_length (by omega), List.take_append_of_le_length (by rw [List.length_drop]; omega)]
    rw [e3, e4, if_pos (by simpa using hs)]
    simp
  | b :: pre, f + 1, no, q, rest, n, hp, hn, hl, h4, hs => by
    have hb := hp b (by simp)
    have ih := read_bad pre f (no + 1) q rest n (fun x hx => hp x (by simp [hx])) hn hl h4 (by rw [show no + 1 + pre.length = no + (b :: pre).length by simp; omega]; exact hs)
    rw [recsB, List.append_assoc, List.append_assoc, ← List.append_assoc (recsB (no + 1) pre) q rest, readR]
    generalize recsB (no + 1) pre ++ q ++ rest = p' at ih ⊢
    have h5 : (recB no b ++ p').take 4 = be 4 b.length := by
      rw [recB, List.append_assoc, List.append_assoc, take_app_left (be_len 4 _).symm]
    have h7 : numB ((recB no b ++ p').take 4) = b.length := by
      rw [h5, num_be, Nat.mod_eq_of_lt]
      have : b.length ≤ 65536 := hb
      omega
    have hlen : (recB no b ++ p').length = b.length + 12 + p'.length := by simp [rec_len]
    rw [h7, if_neg (by rw [hlen]; omega), if_neg (by rw [hlen]; intro h; rcases h with h | h <;> omega)]
    have d1 : (recB no b ++ p').drop (b.length + 12) = p' := drop_app_left (rec_len no b).symm
    have d2 : ((recB no b ++ p').drop 4).take b.length = b := by
      rw [recB, List.append_assoc, List.append_assoc, drop_app_left (be_len 4 _).symm, take_app_left rfl]
    have d3 : ((recB no b ++ p').drop (4 + b.length)).take 8 = sumB no b := by
      rw [recB, List.append_assoc, drop_app_left (by rw [List.length_append, be_len]), take_app_left (sum_len _ _).symm]
    rw [d1, d2, d3, if_neg (by simp), ih]
    simp

end Ab
end Go.Proofs.YtmbbnoipoifhhaaGreatDoor
