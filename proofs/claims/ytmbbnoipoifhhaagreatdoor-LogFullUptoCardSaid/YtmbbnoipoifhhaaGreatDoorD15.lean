/-
  DERIVED. The program's disk at a heap, told with what always holds of it: call by call.
  Conditions: enough rounds, enough depth; few calls so far.
-/
import Derived.Test.YtmbbnoipoifhhaaGreatDoorD14
set_option linter.all false
set_option maxHeartbeats 4000000
namespace Go.Proofs.YtmbbnoipoifhhaaGreatDoor
namespace Ab
set_option maxRecDepth 100000
set_option linter.all false

theorem up_up {α : Type} (l : List (Nat × α)) (k : Nat) (x y : α) : Ab.up (Ab.up l k x) k y = Ab.up l k y := by
  induction l with
  | nil => simp [Ab.up]
  | cons e l ih =>
    obtain ⟨j, z⟩ := e
    simp only [Ab.up]
    split
    · rename_i h; subst h; simp [Ab.up]
    · rename_i h; simp [Ab.up, h, ih]

/-- At a heap: a disk of the program's behind so many calls; some objects are no part of it. -/
def On (l : List Nat) (k : Nat) (d : Dk) (m : Nat) (H : Hp) (N : Nat) : Prop := d.Inv m ∧ ∃ S, PRep H N k d S ∧ ∀ a ∈ l, a < N ∧ ¬ S a
/-- And a slice beside it, that is no part of it. -/
def OnA (l : List Nat) (k : Nat) (d : Dk) (m a : Nat) (rows : List (List AV)) (H : Hp) (N : Nat) : Prop := On l k d m H N ∧ a ∈ l ∧ lk H a = some (0, .arr 1 rows)

theorem PRep.up {H : Hp} {N N' k : Nat} {d : Dk} {S : Nat → Prop} (h : PRep H N k d S) (a : Nat) (x : Nat × AO) (h1 : ¬ S a) (h2 : N ≤ N') : PRep (Ab.up H a x) N' k d S := by
  refine h.frame (fun j hj => ?_) h2
  have : j ≠ a := by rintro rfl; exact h1 hj
  rw [lk_set, if_neg this]
theorem On.up {l : List Nat} {k : Nat} {d : Dk} {m : Nat} {H : Hp} {N N' : Nat} (h : On l k d m H N) (a : Nat) (x : Nat × AO) (ha : a ∈ l) (hN : N ≤ N') : On l k d m (Ab.up H a x) N' :=
  ⟨h.1, h.2.elim fun S hS => ⟨S, hS.1.up a x (hS.2 a ha).2 hN, fun b hb => ⟨Nat.lt_of_lt_of_le (hS.2 b hb).1 hN, (hS.2 b hb).2⟩⟩⟩
theorem On.add {l : List Nat} {k : Nat} {d : Dk} {m : Nat} {H : Hp} {N N' : Nat} (h : On l k d m H N) (hN : N ≤ N') : On l k d m H N' :=
  ⟨h.1, h.2.elim fun S hS => ⟨S, hS.1.frame (fun _ _ => rfl) hN, fun b hb => ⟨Nat.lt_of_lt_of_le (hS.2 b hb).1 hN, (hS.2 b hb).2⟩⟩⟩
theorem On.nil {l : List Nat} {k : Nat} {d : Dk} {m : Nat} {H : Hp} {N : Nat} (h : On l k d m H N) : On [] k d m H N := ⟨h.1, h.2.elim fun S hS => ⟨S, hS.1, by simp⟩⟩
/-- Other objects beside it: new ones. -/
theorem On.re {l l' : List Nat} {k : Nat} {d : Dk} {m : Nat} {H : Hp} {N N' : Nat} (h : On l k d m H N) (hN : N ≤ N') (hl : ∀ a ∈ l', N ≤ a ∧ a < N') : On l' k d m H N' := by
  obtain ⟨hI, S, hS, _⟩ := h
  refine ⟨hI, S, hS.frame (fun _ _ => rfl) hN, fun a ha => ⟨(hl a ha).2, fun hc => ?_⟩⟩
  have := hS.1 a hc
  have := (hl a ha).1
  omega
theorem On.slice {l : List Nat} {k : Nat} {d : Dk} {m : Nat} {H : Hp} {N N' : Nat} (h : On l k d m H N) (a : Nat) (rows : List (List AV)) (ha : a ∈ l) (hN : N ≤ N') : OnA l k d m a rows (Ab.up H a (0, .arr 1 rows)) N' :=
  ⟨h.up a _ ha hN, ha, by rw [lk_set, if_pos rfl]⟩

attribute [local simp] wp_region regionA opsA nCall rCall goCallR pCall pnCall lenA appendA appRow newsA rowsSz rowsOf isIntD makeSliceA elemOf rowsBuilt eqA eq1
variable {K n m k : Nat} {d : Dk} {H : Hp} {N : Nat} {l : List Nat}

theorem on_of {g : FuncId} {args : List AV} {r0 : AV} {d' : Dk} {m' : Nat} (h : On l k d m H N) (hs : ∀ S, PRep H N k d S → (∀ a ∈ l, ¬ S a) → Sp K n g args H N fun r H' N' => r = r0 ∧ PRep H' N' k d' (grw S N N') ∧ Frm S H N H' N') (hI : d'.Inv m') :
    ∃ H' N', callA cfg K n g args H N = some (r0, H', N') ∧ On l k d' m' H' N' ∧ N ≤ N' := by
  obtain ⟨hI0, S, hS, hl⟩ := h
  obtain ⟨r, H', N', h1, h2, h3, h4⟩ := hs S hS fun a ha => (hl a ha).2
  refine ⟨H', N', by rw [h1, h2], ⟨hI, _, h3, fun a ha => ⟨Nat.lt_of_lt_of_le (hl a ha).1 h4.le, fun hc => hc.elim (hl a ha).2 fun hc => ?_⟩⟩, h4.le⟩
  have := (hl a ha).1
  omega
theorem on_of' {g : FuncId} {args : List AV} {d' : Dk} {m' : Nat} (h : On l k d m H N) (hs : ∀ S, PRep H N k d S → (∀ a ∈ l, ¬ S a) → Sp K n g args H N fun r H' N' => PRep H' N' k d' (grw S N N') ∧ Frm S H N H' N') (hI : d'.Inv m') :
    ∃ r H' N', callA cfg K n g args H N = some (r, H', N') ∧ On l k d' m' H' N' ∧ N ≤ N' := by
  obtain ⟨hI0, S, hS, hl⟩ := h
  obtain ⟨r, H', N', h1, h3, h4⟩ := hs S hS fun a ha => (hl a ha).2
  refine ⟨r, H', N', h1, ⟨hI, _, h3, fun a ha => ⟨Nat.lt_of_lt_of_le (hl a ha).1 h4.le, fun hc => hc.elim (hl a ha).2 fun hc => ?_⟩⟩, h4.le⟩
  have := (hl a ha).1
  omega

theorem o_create (hK : big K) (hn : 4 ≤ n) (h : On l k d m H N) (hm : m ≤ 2 ^ 20) (s : Bs) :
    ∃ H' N', callA cfg K n 14 [.ptr k 0 0, .s (ba s)] H N = some (.i .i64 (d.create s).1, H', N') ∧ On l k (d.create s).2 (m + 1) H' N' ∧ N ≤ N' :=
  on_of h (fun S hS _ => c_pCreate hK (by omega) h.1 (by omega) hS s) (h.1.create s)
theorem o_append (hK : big K) (hn : 4 ≤ n) (h : On l k d m H N) (hm : m ≤ 2 ^ 20) (s : Bs) (z : Bool) (b : Bs) (hz : z = true → b = []) (hb : b.length ≤ 2 ^ 30) :
    ∃ H' N', callA cfg K n 15 [.ptr k 0 0, .s (ba s), .vs z 1 (byteRows b)] H N = some (.i .i64 (d.append s b).1, H', N') ∧ On l k (d.append s b).2 (m + 1) H' N' ∧ N ≤ N' :=
  on_of h (fun S hS _ => c_pAppend hK hn h.1 hS s b _ (.inl ⟨z, rfl, hz⟩) hb) (h.1.append s b)
theorem OnA.lt {a : Nat} {rows : List (List AV)} (h : OnA l k d m a rows H N) : a < N := h.1.2.elim fun _ hS => (hS.2 a h.2.1).1
theorem o_appendA {a : Nat} (hK : big K) (hn : 4 ≤ n) (s b : Bs) (h : OnA l k d m a (byteRows b) H N) (hm : m ≤ 2 ^ 20) (hb : b.length ≤ 2 ^ 30) :
    ∃ H' N', callA cfg K n 15 [.ptr k 0 0, .s (ba s), .rs a 0 0 b.length 1] H N = some (.i .i64 (d.append s b).1, H', N') ∧ On l k (d.append s b).2 (m + 1) H' N' ∧ N ≤ N' :=
  on_of h.1 (fun S hS hl => c_pAppend hK hn h.1.1 hS s b _ (.inr ⟨a, 0, rfl, h.2.2, hl a h.2.1, h.lt⟩) hb) (h.1.1.append s b)
theorem o_cut (hK : big K) (hn : 4 ≤ n) (h : On l k d m H N) (hm : m ≤ 2 ^ 20) (s : Bs) (c : Int) :
    ∃ H' N', callA cfg K n 75 [.ptr k 0 0, .s (ba s), .i .i64 c] H N = some (.i .i64 (d.cut s c).1, H', N') ∧ On l k (d.cut s c).2 (m + 1) H' N' ∧ N ≤ N' :=
  on_of h (fun S hS _ => c_pCut hK hn h.1 hS s c) (h.1.cut s c)
theorem o_remove (hK : big K) (hn : 4 ≤ n) (h : On l k d m H N) (hm : m ≤ 2 ^ 20) (s : Bs) :
    ∃ H' N', callA cfg K n 50 [.ptr k 0 0, .s (ba s)] H N = some (.i .i64 (d.remove s).1, H', N') ∧ On l k (d.remove s).2 (m + 1) H' N' ∧ N ≤ N' :=
  on_of h (fun S hS _ => c_pRemove hK hn h.1 (by omega) hS s) (h.1.remove s)
theorem o_rename (hK : big K) (hn : 4 ≤ n) (h : On l k d m H N) (hm : m ≤ 2 ^ 20) (s t : Bs) :
    ∃ H' N', callA cfg K n 89 [.ptr k 0 0, .s (ba s), .s (ba t)] H N = some (.i .i64 (d.rename s t).1, H', N') ∧ On l k (d.rename s t).2 (m + 1) H' N' ∧ N ≤ N' :=
  on_of h (fun S hS _ => c_pRename hK hn h.1 (by omega) hS s t) (h.1.rename s t)
theorem o_sync (hK : big K) (hn : 4 ≤ n) (h : On l k d m H N) (hm : m ≤ 2 ^ 20) (s : Bs) :
    ∃ H' N', callA cfg K n 76 [.ptr k 0 0, .s (ba s)] H N = some (.i .i64 (d.sync s).1, H', N') ∧ On l k (d.sync s).2 (m + 1) H' N' ∧ N ≤ N' :=
  on_of h (fun S hS _ => c_pSync hK hn h.1 hS s) (h.1.sync s)
theorem o_syncNames (hn : 4 ≤ n) (h : On l k d m H N) (hm : m ≤ 2 ^ 20) :
    ∃ H' N', callA cfg K n 51 [.ptr k 0 0] H N = some (.i .i64 d.syncNames.1, H', N') ∧ On l k d.syncNames.2 (m + 1) H' N' ∧ N ≤ N' :=
  on_of h (fun S hS _ => c_pSyncNames (by omega) h.1 hS) h.1.syncNames
theorem o_stop (hn : 4 ≤ n) (h : On l k d m H N) (x : Int) (hx : -9223372036854775808 ≤ x ∧ x ≤ 9223372036854775807) :
    ∃ r H' N', callA cfg K n 26 [.ptr k 0 0, .i .i64 x] H N = some (r, H', N') ∧ On l k (d.stop x) (m + 1) H' N' ∧ N ≤ N' :=
  on_of' h (fun S hS _ => c_pStop (by omega) h.1 hS x) (h.1.stop x hx)
theorem o_crash (hK : big K) (hn : 4 ≤ n) (h : On l k d m H N) (hm : m ≤ 2 ^ 20) (z : Bool) (keeps : List Int) (hz : z = true → keeps = []) (hk : keeps.length ≤ 2 ^ 30) (names : Int) :
    ∃ r H' N', callA cfg K n 21 [.ptr k 0 0, .vs z 1 (intRows keeps), .i .i64 names] H N = some (r, H', N') ∧ On l k (d.crash keeps names) (m + 1) H' N' ∧ N ≤ N' :=
  on_of' h (fun S hS _ => c_pCrash hK (by omega) h.1 (by omega) hS _ keeps (.inl ⟨z, rfl, hz⟩) hk names) (h.1.crash keeps names)
theorem o_crashA {a : Nat} (hK : big K) (hn : 4 ≤ n) (keeps : List Int) (names : Int) (h : OnA l k d m a (intRows keeps) H N) (hm : m ≤ 2 ^ 20) (hk : keeps.length ≤ 2 ^ 30) :
    ∃ r H' N', callA cfg K n 21 [.ptr k 0 0, .rs a 0 0 keeps.length 1, .i .i64 names] H N = some (r, H', N') ∧ On l k (d.crash keeps names) (m + 1) H' N' ∧ N ≤ N' :=
  on_of' h.1 (fun S hS hl => c_pCrash hK (by omega) h.1.1 (by omega) hS _ keeps (.inr ⟨a, 0, rfl, h.2.2, hl a h.2.1, h.lt⟩) hk names) (h.1.1.crash keeps names)

/-- What a call leaves where nothing of the disk turned. -/
theorem On.keep {H' : Hp} {N' : Nat} (h : On l k d m H N) (hn : N ≤ N') (hk : ∀ j, j < N → lk H' j = lk H j) : On l k d m H' N' := by
  obtain ⟨hI, S, hS, hl⟩ := h
  exact ⟨hI, S, hS.frame (fun j hj => hk j (hS.1 j hj)) hn, fun a ha => ⟨Nat.lt_of_lt_of_le (hl a ha).1 hn, (hl a ha).2⟩⟩

theorem o_read (hK : big K) (hn : 4 ≤ n) (h : On l k d m H N) (s : Bs) :
    ∃ v H' N', callA cfg K n 13 [.ptr k 0 0, .s (ba s)] H N = some (.tup [v, .i .i64 (d.look s).1], H', N') ∧ On l k d m H' N' ∧ N ≤ N' ∧
      ((((d.look s).2.getD ⟨[], 0⟩).b = [] ∧ v = .vs true 0 []) ∨ ∃ a g, v = .rs a g 0 ((d.look s).2.getD ⟨[], 0⟩).b.length 1 ∧ lk H' a = some (g, .arr 1 (byteRows ((d.look s).2.getD ⟨[], 0⟩).b)) ∧ N ≤ a ∧ a < N') := by
  obtain ⟨hI, S, ⟨hS1, mm, wv, ms, φ, bv, hP⟩, hl⟩ := h
  obtain ⟨r, H', N', h1, h2, h3, v, h4, h5⟩ := c_pRead (K := K) (n := n) hK (by omega) hI hP hS1 s
  refine ⟨v, H', N', by rw [h1, h4], On.keep ⟨hI, S, ⟨hS1, mm, wv, ms, φ, bv, hP⟩, hl⟩ h2 h3, h2, ?_⟩
  have h6 : SX 1 H' (fun j => N ≤ j ∧ j < N') v (byteRows ((d.look s).2.getD ⟨[], 0⟩).b) := by
    cases hl : (d.look s).2 <;> (rw [hl] at h5; exact h5)
  rcases h6 with ⟨e1, e2⟩ | ⟨a, g, e1, e2, e3⟩
  · refine .inl ⟨?_, e2⟩
    simpa [byteRows] using e1
  · exact .inr ⟨a, g, by simpa using e1, e2, e3⟩

theorem o_new (hn : 1 ≤ n) (q : Nat) (hq : q ≤ 16777216) :
    ∃ a H' N', callA cfg K n 8 [.i .i64 (q : Nat)] H N = some (.tup [.ptr a 0 0, .i .i64 0], H', N') ∧ On [] a (newDk q) 0 H' N' ∧ N ≤ N' ∧ N ≤ a ∧ a < N' ∧ ∀ j, j < N → lk H' j = lk H j := by
  obtain ⟨n, rfl⟩ : ∃ m, n = m + 1 := ⟨n - 1, by omega⟩
  have : Sp K (n + 1) 8 [.i .i64 (q : Nat)] H N fun r hp' nx' => r = .tup [.ptr (N + 11) 0 0, .i .i64 0] ∧ hp' = up (up H (N + 9) (0, .mp [])) (N + 11) (0, .cells [.i .i64 (q : Nat), .mp (some (N + 9)), .vs true 0 [], .i .i64 0]) ∧ nx' = N + 14 := by
    refine sp_cps fun Q hQ => ?_
    refine sp_of rfl (run_wp Tryz.func8 rfl (by simp [Tryz.f8]) ?_)
    have h1 : ¬ (q : Int) < 0 := by omega
    have h2 : ¬ (16777216 : Int) < q := by omega
    simp [h1, h2]
    exact hQ _ _ _ ⟨rfl, rfl, rfl⟩
  obtain ⟨r, hp', nx', h1, h2, h3, h4⟩ := this
  subst h2 h3 h4
  refine ⟨N + 11, _, _, h1, ⟨newDk_inv q hq, _, new_rep (nx := N) (by omega : N + 9 ≠ N + 11) (by omega) (by omega) (by omega) (by omega) ?_ ?_, by simp⟩, by omega, by omega, by omega, fun j hj => ?_⟩
  · rw [lk_set, if_neg (by omega), lk_set, if_pos rfl]
  · rw [lk_set, if_pos rfl]
  · rw [lk_set, if_neg (by omega), lk_set, if_neg (by omega)]

/-- The same by functions of the heap, for simp. -/
structure Stp (l : List Nat) (K n k : Nat) (g : FuncId) (P : Hp → Nat → Prop) (args : List AV) (r : Hp → Nat → AV) (d' : Dk) (m' : Nat) (h1 : Hp → Nat → Hp) (n1 : Hp → Nat → Nat) : Prop where
  e : ∀ H N, P H N → callA cfg K n g args H N = some (r H N, h1 H N, n1 H N)
  on : ∀ H N, P H N → On l k d' m' (h1 H N) (n1 H N)
  add : ∀ H N c, P H N → On l k d' m' (h1 H N) (n1 H N + c)
  up : ∀ H N a c x, P H N → a ∈ l → On l k d' m' (Ab.up (h1 H N) a x) (n1 H N + c)
  sl : ∀ H N a c rows, P H N → a ∈ l → OnA l k d' m' a rows (Ab.up (h1 H N) a (0, .arr 1 rows)) (n1 H N + c)
  ne : ∀ H N a c rows, P H N → a < c → OnA [n1 H N + a] k d' m' (n1 H N + a) rows (Ab.up (h1 H N) (n1 H N + a) (0, .arr 1 rows)) (n1 H N + c)

theorem stp {g : FuncId} {P : Hp → Nat → Prop} {args : List AV} {d' : Dk} {m' : Nat} (h : ∀ H N, P H N → ∃ r H' N', callA cfg K n g args H N = some (r, H', N') ∧ On l k d' m' H' N' ∧ N ≤ N') : ∃ r h1 n1, Stp l K n k g P args r d' m' h1 n1 := by
  obtain ⟨r, h1, n1, h2⟩ := sk (K := K) (n := n) (g := g) (args := args) (P := P) (Q := fun H N r H' N' => On l k d' m' H' N' ∧ N ≤ N') h
  exact ⟨r, h1, n1, fun H N hp => (h2 H N hp).1, fun H N hp => (h2 H N hp).2.1, fun H N c hp => (h2 H N hp).2.1.add (by omega), fun H N a c x hp ha => (h2 H N hp).2.1.up _ x ha (by omega), fun H N a c rows hp ha => (h2 H N hp).2.1.slice _ rows ha (by omega),
    fun H N a c rows hp hc => ((h2 H N hp).2.1.re (N' := n1 H N + c) (l' := [n1 H N + a]) (by omega) (by simp; omega)).slice _ rows (by simp) (Nat.le_refl _)⟩
theorem stp0 {g : FuncId} {P : Hp → Nat → Prop} {args : List AV} {d' : Dk} {m' : Nat} {r0 : AV} (h : ∀ H N, P H N → ∃ H' N', callA cfg K n g args H N = some (r0, H', N') ∧ On l k d' m' H' N' ∧ N ≤ N') : ∃ h1 n1, Stp l K n k g P args (fun _ _ => r0) d' m' h1 n1 := by
  obtain ⟨r, h1, n1, h2, h3, h4, h5, h6, h7⟩ := stp (K := K) (n := n) (k := k) (l := l) (g := g) (P := P) (args := args) (d' := d') (m' := m') fun H N hp => by
    obtain ⟨H', N', h⟩ := h H N hp
    exact ⟨r0, H', N', h⟩
  refine ⟨h1, n1, fun H N hp => ?_, h3, h4, h5, h6, h7⟩
  obtain ⟨H', N', h8, _⟩ := h H N hp
  have := h2 H N hp
  rw [h8] at this ⊢
  cases this
  rfl
/-- A file's bytes read, by functions of the heap; there are some. -/
theorem sk_read {P : Hp → Nat → Prop} {s b : Bs} (hK : big K) (hn : 4 ≤ n) (hb : b ≠ []) (hl : (d.look s).1 = 0) (hl2 : ((d.look s).2.getD ⟨[], 0⟩).b = b) (h : ∀ H N, P H N → On l k d m H N) :
    ∃ (a g : Hp → Nat → Nat) (h1 : Hp → Nat → Hp) (n1 : Hp → Nat → Nat), (∀ H N, P H N → callA cfg K n 13 [.ptr k 0 0, .s (ba s)] H N = some (.tup [.rs (a H N) (g H N) 0 b.length 1, .i .i64 0], h1 H N, n1 H N)) ∧
      (∀ H N, P H N → lk (h1 H N) (a H N) = some (g H N, .arr 1 (byteRows b))) ∧ ∀ H N c, P H N → On l k d m (h1 H N) (n1 H N + c) := by
  obtain ⟨r, h1, n1, x, h2⟩ := sk' (K := K) (n := n) (g := 13) (args := [.ptr k 0 0, .s (ba s)]) (X := Nat × Nat) (P := P) (Q := fun H N r H' N' x => r = .tup [.rs x.1 x.2 0 b.length 1, .i .i64 0] ∧ lk H' x.1 = some (x.2, .arr 1 (byteRows b)) ∧ On l k d m H' N') fun H N hp => by
    obtain ⟨v, H', N', e1, e2, e3, e4⟩ := o_read hK hn (h H N hp) s
    rw [hl2, hl] at *
    rcases e4 with ⟨e5, _⟩ | ⟨a, g, e5, e6, _⟩
    · exact absurd e5 hb
    · exact ⟨_, H', N', e1, (a, g), by rw [e5], e6, e2⟩
  exact ⟨fun H N => (x H N).1, fun H N => (x H N).2, h1, n1, fun H N hp => by rw [(h2 H N hp).1, (h2 H N hp).2.1], fun H N hp => (h2 H N hp).2.2.1, fun H N c hp => (h2 H N hp).2.2.2.add (by omega)⟩
/-- Where a call's arguments hang on an object. -/
structure StpA (l : List Nat) (K n k : Nat) (g : FuncId) (P : Nat → Hp → Nat → Prop) (args : Nat → List AV) (r : Nat → Hp → Nat → AV) (d' : Dk) (m' : Nat) (h1 : Nat → Hp → Nat → Hp) (n1 : Nat → Hp → Nat → Nat) : Prop where
  e : ∀ a H N, P a H N → callA cfg K n g (args a) H N = some (r a H N, h1 a H N, n1 a H N)
  on : ∀ a H N, P a H N → On l k d' m' (h1 a H N) (n1 a H N)
  add : ∀ a H N c, P a H N → On l k d' m' (h1 a H N) (n1 a H N + c)
  up : ∀ b H N a c x, P b H N → a ∈ l → On l k d' m' (Ab.up (h1 b H N) a x) (n1 b H N + c)
  sl : ∀ b H N a c rows, P b H N → a ∈ l → OnA l k d' m' a rows (Ab.up (h1 b H N) a (0, .arr 1 rows)) (n1 b H N + c)
  ne : ∀ b H N a c rows, P b H N → a < c → OnA [n1 b H N + a] k d' m' (n1 b H N + a) rows (Ab.up (h1 b H N) (n1 b H N + a) (0, .arr 1 rows)) (n1 b H N + c)
theorem stpA {g : FuncId} {P : Nat → Hp → Nat → Prop} {args : Nat → List AV} {d' : Dk} {m' : Nat} (h : ∀ a H N, P a H N → ∃ r H' N', callA cfg K n g (args a) H N = some (r, H', N') ∧ On l k d' m' H' N' ∧ N ≤ N') : ∃ r h1 n1, StpA l K n k g P args r d' m' h1 n1 := by
  have h2 : ∀ a, ∃ x : (Hp → Nat → AV) × (Hp → Nat → Hp) × (Hp → Nat → Nat), Stp l K n k g (P a) (args a) x.1 d' m' x.2.1 x.2.2 := fun a => by
    obtain ⟨r, h1, n1, h2⟩ := stp (K := K) (n := n) (k := k) (l := l) (h a)
    exact ⟨(r, h1, n1), h2⟩
  obtain ⟨f, hf⟩ := Classical.skolem.1 h2
  exact ⟨fun a => (f a).1, fun a => (f a).2.1, fun a => (f a).2.2, fun a => (hf a).e, fun a => (hf a).on, fun a => (hf a).add, fun a => (hf a).up, fun a => (hf a).sl, fun a => (hf a).ne⟩
theorem stpA0 {g : FuncId} {P : Nat → Hp → Nat → Prop} {args : Nat → List AV} {d' : Dk} {m' : Nat} {r0 : AV} (h : ∀ a H N, P a H N → ∃ H' N', callA cfg K n g (args a) H N = some (r0, H', N') ∧ On l k d' m' H' N' ∧ N ≤ N') : ∃ h1 n1, StpA l K n k g P args (fun _ _ _ => r0) d' m' h1 n1 := by
  obtain ⟨r, h1, n1, h2, h3, h4, h5, h6, h7⟩ := stpA (K := K) (n := n) (k := k) (l := l) (g := g) (P := P) (args := args) (d' := d') (m' := m') fun a H N hp => by
    obtain ⟨H', N', h⟩ := h a H N hp
    exact ⟨r0, H', N', h⟩
  refine ⟨h1, n1, fun a H N hp => ?_, h3, h4, h5, h6, h7⟩
  obtain ⟨H', N', h8, _⟩ := h a H N hp
  have := h2 a H N hp
  rw [h8] at this ⊢
  cases this
  rfl

end Ab
end Go.Proofs.YtmbbnoipoifhhaaGreatDoor
