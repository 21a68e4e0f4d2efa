/-
  DERIVED. The program's disk: Crash.
  Conditions: enough rounds, enough depth; a disk of bounded size.
-/
import Derived.Test.YtmbbnoipoifhhaaGreatDoorD12
set_option linter.all false
set_option maxHeartbeats 4000000
namespace Go.Proofs.YtmbbnoipoifhhaaGreatDoor
namespace Ab
set_option maxRecDepth 100000
set_option maxHeartbeats 8000000
set_option linter.all false
attribute [local simp] wp_region regionA opsA nCall rCall goCallR pCall pnCall lenA appendA appRow newsA rowsSz rowsOf isIntD makeSliceA elemOf rowsBuilt eqA eq1

def intRows (l : List Int) : List (List AV) := l.map fun x => [.i .i64 x]
@[simp] theorem intRows_len (l : List Int) : (intRows l).length = l.length := by simp [intRows]
theorem leftN_lt (k : Int) {n : Nat} (h : 0 < n) : leftN k n < n := Nat.mod_lt _ h
end Ab
end Go.Proofs.YtmbbnoipoifhhaaGreatDoor

/-
  DERIVED. What always holds of a disk holds behind each call.
  Conditions: none of a program's.
-/
namespace Go.Proofs.YtmbbnoipoifhhaaGreatDoor
namespace Ab
set_option linter.all false

theorem Dk.Inv.mono {d : Dk} {a b : Nat} (h : d.Inv a) (hab : a ≤ b) : d.Inv b :=
  ⟨h.quota, Nat.le_trans h.nfiles hab, Nat.le_trans h.nways (by omega), h.ne, h.way, h.file, h.left⟩

theorem Dk.Inv.stop1 {d : Dk} {n : Nat} (h : d.Inv n) : d.stop1.Inv n := by
  refine ⟨by simpa using h.quota, by simpa using h.nfiles, by simpa using h.nways, by simpa using h.ne, by simpa using h.way, by simpa using h.file, ?_⟩
  have := h.left
  unfold Dk.stop1
  split
  · exact this
  · split
    · exact this
    · split
      · simp only; omega
      · exact this

theorem Dk.Inv.goes {d : Dk} {n : Nat} {f : Dk → Dk} (h : d.Inv n) (hf : d.stop1.Inv n → (f d.stop1).Inv (n + 1)) : (d.goes f).2.Inv (n + 1) := by
  unfold Dk.goes
  split
  · exact h.stop1.mono (Nat.le_succ n)
  · exact hf h.stop1

theorem Dk.Inv.with {d : Dk} {n : Nat} {w : Way} (h : d.Inv n) (h1 : w.length ≤ 64) (h2 : Rising w) (h3 : ∀ e ∈ w, e.2 < d.files.length ∧ nameOk e.1 = true) : (d.with w).Inv (n + 1) := by
  refine ⟨h.quota, Nat.le_trans h.nfiles (Nat.le_succ n), by simpa [Dk.with] using h.nways, by simp [Dk.with], fun v hv => ?_, h.file, h.left⟩
  simp only [Dk.with, List.mem_append, List.mem_singleton] at hv
  rcases hv with hv | hv
  · exact h.way v hv
  · subst hv; exact ⟨h1, h2, h3⟩

theorem Dk.Inv.grows {d : Dk} {n : Nat} (h : d.Inv n) : Dk.Inv { d with files := d.files ++ [⟨[], 0⟩] } (n + 1) := by
  refine ⟨h.quota, by simpa using h.nfiles, Nat.le_trans h.nways (by omega), h.ne, fun w hw => ?_, fun x hx => ?_, h.left⟩
  · obtain ⟨a, b, c⟩ := h.way w hw
    exact ⟨a, b, fun e he => ⟨by simpa using Nat.lt_succ_of_lt (c e he).1, (c e he).2⟩⟩
  · simp only [List.mem_append, List.mem_singleton] at hx
    rcases hx with hx | hx
    · exact h.file x hx
    · subst hx; simp

theorem Dk.Inv.create {d : Dk} {n : Nat} (h : d.Inv n) (s : Bs) : (d.create s).2.Inv (n + 1) := by
  unfold Dk.create
  split
  · exact h.mono (Nat.le_succ n)
  split
  · exact h.mono (Nat.le_succ n)
  split
  · exact h.mono (Nat.le_succ n)
  rename_i h1 h2 h3
  refine h.goes fun h0 => ?_
  have hs : nameOk s = true := by simpa using h1
  have hr := h0.rising
  refine ⟨h0.quota, by simpa [Dk.with] using h0.nfiles, by simpa [Dk.with] using h0.nways, by simp [Dk.with], fun v hv => ?_, h0.grows.file, h0.left⟩
  simp only [Dk.with, List.mem_append, List.mem_singleton] at hv
  rcases hv with hv | hv
  · exact h0.grows.way v hv
  · subst hv
    refine ⟨Nat.le_trans (insW_len _ _ _) (by simp only [stop1_now]; omega), insW_rising _ _ hr, fun e he => ?_⟩
    rcases insW_mem he with he | he
    · subst he; simp [hs, Dk.with]
    · have := (h0.way _ h0.now).2.2 e he
      exact ⟨by simpa [Dk.with] using Nat.lt_succ_of_lt this.1, this.2⟩

theorem Dk.Inv.setF {d : Dk} {n i : Nat} {x : Fl} (h : d.Inv n) (hx : x.b.length ≤ 2 ^ 24 ∧ x.fast ≤ x.b.length) : (d.setF i x).Inv n := by
  refine ⟨h.quota, by simpa [Dk.setF] using h.nfiles, h.nways, h.ne, fun w hw => ?_, fun y hy => ?_, h.left⟩
  · obtain ⟨a, b, c⟩ := h.way w hw
    exact ⟨a, b, fun e he => ⟨by simpa [Dk.setF] using (c e he).1, (c e he).2⟩⟩
  · rcases List.mem_or_eq_of_mem_set hy with hy | hy
    · exact h.file y hy
    · exact hy ▸ hx

theorem Dk.Inv.at {d : Dk} {n : Nat} {s : Bs} {f : Nat → Int × Dk} (h : d.Inv n) (hf : ∀ i, findW d.now s = some i → nameOk s = true → (f i).2.Inv (n + 1)) : (d.at s f).2.Inv (n + 1) := by
  unfold Dk.at
  split
  · exact h.mono (Nat.le_succ n)
  · rename_i hs
    split
    · exact h.mono (Nat.le_succ n)
    · rename_i i hi
      exact hf i hi (by simpa using hs)

theorem le_sum {l : List Nat} {x : Nat} (h : x ∈ l) : x ≤ l.sum := by
  induction l with
  | nil => simp at h
  | cons a l ih =>
    simp only [List.mem_cons] at h
    simp only [List.sum_cons]
    rcases h with h | h
    · omega
    · have := ih h; omega

theorem Dk.le_used {d : Dk} {s : Bs} {i : Nat} (h : findW d.now s = some i) : (d.file i).b.length ≤ d.used :=
  le_sum (List.mem_map.2 ⟨(s, i), find_mem h, rfl⟩)

theorem Dk.Inv.put {d : Dk} {n i : Nat} {b : Bs} (h : d.Inv n) (hl : (d.file i).b.length + b.length ≤ 2 ^ 24) : (d.put i b).Inv n := by
  refine h.setF ?_
  have := (h.filelen (i := i)).2
  simp only [List.length_append]
  omega

theorem Dk.Inv.append {d : Dk} {n : Nat} (h : d.Inv n) (s b : Bs) : (d.append s b).2.Inv (n + 1) := by
  refine h.at fun i hi hs => ?_
  have hu := Dk.le_used hi
  have hq := h.quota
  split
  · exact h.mono (Nat.le_succ n)
  rename_i hq2
  split
  · exact h.mono (Nat.le_succ n)
  split
  · refine (h.stop1.put ?_).mono (Nat.le_succ n)
    simp only [stop1_file, List.length_take]
    omega
  · refine (h.stop1.put ?_).mono (Nat.le_succ n)
    simp only [stop1_file]
    omega

theorem Dk.Inv.cut {d : Dk} {n : Nat} (h : d.Inv n) (s : Bs) (c : Int) : (d.cut s c).2.Inv (n + 1) := by
  refine h.at fun i hi hs => ?_
  split
  · exact h.mono (Nat.le_succ n)
  · rename_i hc
    refine h.goes fun h0 => (h0.setF ?_).mono (Nat.le_succ n)
    have h1 := h.filelen (i := i)
    simp only [stop1_file, List.length_take]
    omega

theorem Dk.Inv.remove {d : Dk} {n : Nat} (h : d.Inv n) (s : Bs) : (d.remove s).2.Inv (n + 1) := by
  refine h.at fun i hi hs => ?_
  refine h.goes fun h0 => h0.with ?_ (delW_rising _ h0.rising) fun e he => (h0.way _ h0.now).2.2 e ((List.mem_filter.1 he).1)
  exact Nat.le_trans (List.length_filter_le _ _) h0.nowlen

theorem Dk.Inv.sync {d : Dk} {n : Nat} (h : d.Inv n) (s : Bs) : (d.sync s).2.Inv (n + 1) := by
  refine h.at fun i hi hs => ?_
  refine h.goes fun h0 => (h0.setF ?_).mono (Nat.le_succ n)
  exact ⟨(h0.filelen).1, Nat.le_refl _⟩

theorem Dk.Inv.syncNames {d : Dk} {n : Nat} (h : d.Inv n) : d.syncNames.2.Inv (n + 1) := by
  refine h.goes fun h0 => ⟨h0.quota, Nat.le_trans h0.nfiles (Nat.le_succ n), by simp, by simp, fun w hw => ?_, h0.file, h0.left⟩
  simp only [List.mem_singleton] at hw
  subst hw; exact h0.way _ h0.now

theorem Dk.Inv.stop {d : Dk} {n : Nat} (h : d.Inv n) (x : Int) (hx : -9223372036854775808 ≤ x ∧ x ≤ 9223372036854775807) : (d.stop x).Inv (n + 1) :=
  ⟨h.quota, Nat.le_trans h.nfiles (Nat.le_succ n), Nat.le_trans h.nways (by omega), h.ne, h.way, h.file, hx⟩

theorem Fl.crash_ok {x : Fl} (k : Int) (h : x.b.length ≤ 2 ^ 24 ∧ x.fast ≤ x.b.length) : (x.crash k).b.length ≤ 2 ^ 24 ∧ (x.crash k).fast ≤ (x.crash k).b.length := by
  unfold Fl.crash
  split
  · simp only [List.length_take]; omega
  · exact ⟨h.1, Nat.le_refl _⟩

theorem crashF_len {keeps : List Int} : ∀ {w : Way} {a : Nat} {fs : List Fl}, (crashF keeps w a fs).length = fs.length
  | [], _, _ => rfl
  | e :: w, a, fs => by simp only [crashF]; rw [crashF_len]; simp

theorem crashF_all {keeps : List Int} (p : Fl → Prop) (h0 : p ⟨[], 0⟩) (hc : ∀ x k, p x → p (x.crash k)) : ∀ {w : Way} {a : Nat} {fs : List Fl}, (∀ x ∈ fs, p x) → ∀ x ∈ crashF keeps w a fs, p x
  | [], _, fs, h => h
  | e :: w, a, fs, h => by
    simp only [crashF]
    refine crashF_all p h0 hc fun x hx => ?_
    rcases List.mem_or_eq_of_mem_set hx with hx | hx
    · exact h x hx
    · subst hx
      refine hc _ _ ?_
      cases h2 : fs[e.2]? with
      | none => simpa using h0
      | some y => simpa using h y (List.mem_of_getElem? h2)

theorem Dk.Inv.crash {d : Dk} {n : Nat} (h : d.Inv n) (keeps : List Int) (names : Int) : (d.crash keeps names).Inv (n + 1) := by
  have hlt : leftN names d.ways.length < d.ways.length := leftN_lt names (List.length_pos_iff.2 h.ne)
  refine ⟨h.quota, ?_, by simp [Dk.crash], by simp [Dk.crash], fun w hw => ?_, ?_, by simp [Dk.crash]⟩
  · simp only [Dk.crash, crashF_len]; exact Nat.le_trans h.nfiles (Nat.le_succ n)
  · simp only [Dk.crash, List.mem_singleton] at hw
    subst hw
    rw [List.getElem?_eq_getElem hlt]
    simp only [Option.getD_some, Dk.crash, crashF_len]
    exact h.way _ (List.getElem_mem hlt)
  · exact crashF_all (fun x => x.b.length ≤ 2 ^ 24 ∧ x.fast ≤ x.b.length) (by simp) (fun x k hx => Fl.crash_ok k hx) h.file

end Ab
end Go.Proofs.YtmbbnoipoifhhaaGreatDoor

/-
  DERIVED. The program's disk at a heap, told with what always holds of it: call by call.
  Conditions: enough rounds, enough depth; few calls so far.
-/
namespace Go.Proofs.YtmbbnoipoifhhaaGreatDoor
namespace Ab
set_option maxRecDepth 100000
set_option linter.all false

theorem up_up {α : Type} (l : List (Nat × α)) (k : Nat) (x y : α) : Ab.up (Ab.up l k x) k y = Ab.up l k y := by
  induction l with
  | nil => simp [Ab.up]
  | cons e l ih =>
    obtain ⟨j, z⟩ := e
    simp only [Ab.up]
    split
    · rename_i h; subst h; simp [Ab.up]
    · rename_i h; simp [Ab.up, h, ih]

/-- At a heap: a disk of the program's behind so many calls; some objects are no part of it. -/
def On (l : List Nat) (k : Nat) (d : Dk) (m : Nat) (H : Hp) (N : Nat) : Prop := d.Inv m ∧ ∃ S, PRep H N k d S ∧ ∀ a ∈ l, a < N ∧ ¬ S a
/-- And a slice beside it, that is no part of it. -/
def OnA (l : List Nat) (k : Nat) (d : Dk) (m a : Nat) (rows : List (List AV)) (H : Hp) (N : Nat) : Prop := On l k d m H N ∧ a ∈ l ∧ lk H a = some (0, .arr 1 rows)

theorem PRep.up {H : Hp} {N N' k : Nat} {d : Dk} {S : Nat → Prop} (h : PRep H N k d S) (a : Nat) (x : Nat × AO) (h1 : ¬ S a) (h2 : N ≤ N') : PRep (Ab.up H a x) N' k d S := by
  refine h.frame (fun j hj => ?_) h2
  have : j ≠ a := by rintro rfl; exact h1 hj
  rw [lk_set, if_neg this]
theorem On.up {l : List Nat} {k : Nat} {d : Dk} {m : Nat} {H : Hp} {N N' : Nat} (h : On l k d m H N) (a : Nat) (x : Nat × AO) (ha : a ∈ l) (hN : N ≤ N') : On l k d m (Ab.up H a x) N' :=
  ⟨h.1, h.2.elim fun S hS => ⟨S, hS.1.up a x (hS.2 a ha).2 hN, fun b hb => ⟨Nat.lt_of_lt_of_le (hS.2 b hb).1 hN, (hS.2 b hb).2⟩⟩⟩
theorem On.add {l : List Nat} {k : Nat} {d : Dk} {m : Nat} {H : Hp} {N N' : Nat} (h : On l k d m H N) (hN : N ≤ N') : On l k d m H N' :=
  ⟨h.1, h.2.elim fun S hS => ⟨S, hS.1.frame (fun _ _ => rfl) hN, fun b hb => ⟨Nat.lt_of_lt_of_le (hS.2 b hb).1 hN, (hS.2 b hb).2⟩⟩⟩
theorem On.nil {l : List Nat} {k : Nat} {d : Dk} {m : Nat} {H : Hp} {N : Nat} (h : On l k d m H N) : On [] k d m H N := ⟨h.1, h.2.elim fun S hS => ⟨S, hS.1, by simp⟩⟩
theorem On.slice {l : List Nat} {k : Nat} {d : Dk} {m : Nat} {H : Hp} {N N' : Nat} (h : On l k d m H N) (a : Nat) (rows : List (List AV)) (ha : a ∈ l) (hN : N ≤ N') : OnA l k d m a rows (Ab.up H a (0, .arr 1 rows)) N' :=
  ⟨h.up a _ ha hN, ha, by rw [lk_set, if_pos rfl]⟩

attribute [local simp] wp_region regionA opsA nCall rCall goCallR pCall pnCall lenA appendA appRow newsA rowsSz rowsOf isIntD makeSliceA elemOf rowsBuilt eqA eq1
variable {K n m k : Nat} {d : Dk} {H : Hp} {N : Nat} {l : List Nat}

theorem OnA.lt {a : Nat} {rows : List (List AV)} (h : OnA l k d m a rows H N) : a < N := h.1.2.elim fun _ hS => (hS.2 a h.2.1).1
/-- What a call leaves where nothing of the disk turned. -/
theorem On.keep {H' : Hp} {N' : Nat} (h : On l k d m H N) (hn : N ≤ N') (hk : ∀ j, j < N → lk H' j = lk H j) : On l k d m H' N' := by
  obtain ⟨hI, S, hS, hl⟩ := h
  exact ⟨hI, S, hS.frame (fun j hj => hk j (hS.1 j hj)) hn, fun a ha => ⟨Nat.lt_of_lt_of_le (hl a ha).1 hn, (hl a ha).2⟩⟩

/-- The same by functions of the heap, for simp. -/
structure Stp (l : List Nat) (K n k : Nat) (g : FuncId) (P : Hp → Nat → Prop) (args : List AV) (r : Hp → Nat → AV) (d' : Dk) (m' : Nat) (h1 : Hp → Nat → Hp) (n1 : Hp → Nat → Nat) : Prop where
  e : ∀ H N, P H N → callA cfg K n g args H N = some (r H N, h1 H N, n1 H N)
  on : ∀ H N, P H N → On l k d' m' (h1 H N) (n1 H N)
  add : ∀ H N c, P H N → On l k d' m' (h1 H N) (n1 H N + c)
  up : ∀ H N a c x, P H N → a ∈ l → On l k d' m' (Ab.up (h1 H N) a x) (n1 H N + c)
  sl : ∀ H N a c rows, P H N → a ∈ l → OnA l k d' m' a rows (Ab.up (h1 H N) a (0, .arr 1 rows)) (n1 H N + c)
  ne : ∀ H N a c rows, P H N → a < c → OnA [n1 H N + a] k d' m' (n1 H N + a) rows (Ab.up (h1 H N) (n1 H N + a) (0, .arr 1 rows)) (n1 H N + c)

/-- Where a call's arguments hang on an object. -/
structure StpA (l : List Nat) (K n k : Nat) (g : FuncId) (P : Nat → Hp → Nat → Prop) (args : Nat → List AV) (r : Nat → Hp → Nat → AV) (d' : Dk) (m' : Nat) (h1 : Nat → Hp → Nat → Hp) (n1 : Nat → Hp → Nat → Nat) : Prop where
  e : ∀ a H N, P a H N → callA cfg K n g (args a) H N = some (r a H N, h1 a H N, n1 a H N)
  on : ∀ a H N, P a H N → On l k d' m' (h1 a H N) (n1 a H N)
  add : ∀ a H N c, P a H N → On l k d' m' (h1 a H N) (n1 a H N + c)
  up : ∀ b H N a c x, P b H N → a ∈ l → On l k d' m' (Ab.up (h1 b H N) a x) (n1 b H N + c)
  sl : ∀ b H N a c rows, P b H N → a ∈ l → OnA l k d' m' a rows (Ab.up (h1 b H N) a (0, .arr 1 rows)) (n1 b H N + c)
  ne : ∀ b H N a c rows, P b H N → a < c → OnA [n1 b H N + a] k d' m' (n1 b H N + a) rows (Ab.up (h1 b H N) (n1 b H N + a) (0, .arr 1 rows)) (n1 b H N + c)
end Ab
end Go.Proofs.YtmbbnoipoifhhaaGreatDoor
