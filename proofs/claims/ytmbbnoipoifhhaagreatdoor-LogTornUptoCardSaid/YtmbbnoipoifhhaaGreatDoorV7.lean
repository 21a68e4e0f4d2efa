/-
  DERIVED. Calls on the disk beside a log; a segment more.
  Conditions: none of a program's.
-/
import Derived.Test.YtmbbnoipoifhhaaGreatDoorV5
set_option linter.all false
set_option maxHeartbeats 4000000
namespace Go.Proofs.YtmbbnoipoifhhaaGreatDoor
namespace Ab
set_option maxRecDepth 100000
set_option maxHeartbeats 8000000
set_option linter.all false
variable {kl kd : Nat} {l l' : Lg} {d d' : Dk} {U U' : Nat → Prop} {sv sv' : AV} {ks ks' : List Nat} {rvs : Nat → AV} {H H' : Hp} {N N' K n m : Nat}

/-- What a call leaves that works on the disk of a log. -/
def LXq (kl kd : Nat) (l : Lg) (d' : Dk) (U : Nat → Prop) (sv : AV) (ks : List Nat) (rvs : Nat → AV) (H : Hp) (N : Nat) (e : Int) (r : AV) (H' : Hp) (N' : Nat) : Prop := r = .i .i64 e ∧ LX kl kd l d' (grw U N N') sv ks rvs H' N' ∧ Frm U H N H' N'

theorem lx_create (hK : big K) (hn : 3 ≤ n) (hI : d.Inv m) (hm : m ≤ 2 ^ 21) (h : LX kl kd l d U sv ks rvs H N) (s : Bs) : Sp K n 14 [.ptr kd 0 0, .s (ba s)] H N (LXq kl kd l (d.create s).2 U sv ks rvs H N (d.create s).1) :=
  lx_disk h fun S hS _ => c_pCreate hK hn hI hm hS s
theorem lx_remove (hK : big K) (hn : 4 ≤ n) (hI : d.Inv m) (hm : m ≤ 2 ^ 21) (h : LX kl kd l d U sv ks rvs H N) (s : Bs) : Sp K n 50 [.ptr kd 0 0, .s (ba s)] H N (LXq kl kd l (d.remove s).2 U sv ks rvs H N (d.remove s).1) :=
  lx_disk h fun S hS _ => c_pRemove hK hn hI hm hS s
theorem lx_sync (hK : big K) (hn : 4 ≤ n) (hI : d.Inv m) (h : LX kl kd l d U sv ks rvs H N) (s : Bs) : Sp K n 76 [.ptr kd 0 0, .s (ba s)] H N (LXq kl kd l (d.sync s).2 U sv ks rvs H N (d.sync s).1) :=
  lx_disk h fun S hS _ => c_pSync hK hn hI hS s
theorem lx_syncNames (hn : 2 ≤ n) (hI : d.Inv m) (h : LX kl kd l d U sv ks rvs H N) : Sp K n 51 [.ptr kd 0 0] H N (LXq kl kd l d.syncNames.2 U sv ks rvs H N d.syncNames.1) :=
  lx_disk h fun S hS _ => c_pSyncNames hn hI hS
theorem lx_cut (hK : big K) (hn : 4 ≤ n) (hI : d.Inv m) (h : LX kl kd l d U sv ks rvs H N) (s : Bs) (c : Int) : Sp K n 75 [.ptr kd 0 0, .s (ba s), .i .i64 c] H N (LXq kl kd l (d.cut s c).2 U sv ks rvs H N (d.cut s c).1) :=
  lx_disk h fun S hS _ => c_pCut hK hn hI hS s c
theorem lx_append (hK : big K) (hn : 4 ≤ n) (hI : d.Inv m) (h : LX kl kd l d U sv ks rvs H N) (s b : Bs) {a g : Nat} (ha : lk H a = some (g, .arr 1 (byteRows b))) (hu : ¬ U a) (hN : a < N) (hb : b.length ≤ 2 ^ 30) :
    Sp K n 15 [.ptr kd 0 0, .s (ba s), .rs a g 0 b.length 1] H N (LXq kl kd l (d.append s b).2 U sv ks rvs H N (d.append s b).1) :=
  lx_disk h fun S hS hSU => c_pAppend hK hn hI hS s b _ (.inr ⟨a, g, rfl, ha, fun e => hu (hSU a e), hN⟩) hb
theorem lx_read (hK : big K) (hn : 3 ≤ n) (hI : d.Inv m) (h : LX kl kd l d U sv ks rvs H N) (s : Bs) :
    Sp K n 13 [.ptr kd 0 0, .s (ba s)] H N fun r H' N' => LX kl kd l d U sv ks rvs H' N' ∧ N ≤ N' ∧ (∀ j, j < N → lk H' j = lk H j) ∧ ∃ v, r = .tup [v, .i .i64 (d.look s).1] ∧ SX 1 H' (fun j => N ≤ j ∧ j < N') v (byteRows (readD d s)) := by
  have h' := h
  obtain ⟨S, T, ⟨hS1, mm, wv, ms, φ, bv, hP⟩, h2, h3, h4, h5, h6⟩ := h
  refine (c_pRead hK hn hI hP hS1 s).mono fun r H' N' ⟨e1, e2, v, e3, e4⟩ => ⟨h'.low e2 e1, e1, e2, v, e3, ?_⟩
  have : readD d s = (match (d.look s).2 with | some f => f.b | none => []) := by
    unfold readD
    cases (d.look s).2 <;> rfl
  rw [this]
  exact e4
theorem lx_size (hK : big K) (hn : 3 ≤ n) (hI : d.Inv m) (h : LX kl kd l d U sv ks rvs H N) (s : Bs) :
    Sp K n 12 [.ptr kd 0 0, .s (ba s)] H N fun r H' N' => r = .tup [.i .i64 (match (d.look s).2 with | some f => (f.b.length : Nat) | none => 0), .i .i64 (d.look s).1] ∧ H' = H ∧ N ≤ N' := by
  obtain ⟨S, T, ⟨hS1, mm, wv, ms, φ, bv, hP⟩, h2, h3, h4, h5, h6⟩ := h
  exact c_pSize hK hn hI hP s
theorem lx_list (hn : 2 ≤ n) (hI : d.Inv m) (h : LX kl kd l d U sv ks rvs H N) :
    Sp K n 71 [.ptr kd 0 0] H N fun r H' N' => N ≤ N' ∧ (∀ j, j < N → lk H' j = lk H j) ∧ SX 1 H' (fun j => N ≤ j ∧ j < N') r (nameRows d.now) := by
  obtain ⟨S, T, ⟨hS1, mm, wv, ms, φ, bv, hP⟩, h2, h3, h4, h5, h6⟩ := h
  exact c_pList hn hI hP

theorem LX.sg (h : LX kl kd l d U sv ks rvs H N) {i k : Nat} {s : Sg} (hk : ks[i]? = some k) (hs : l.segs[i]? = some s) : lk H k = some (0, .cells [.i .u64 (s.no : Nat), rvs k, .i .i64 (s.size : Nat)]) := by
  obtain ⟨S, T, h1, h2, h3, h4, h5, h6⟩ := h
  exact (h2.seg i k s hk hs).top
/-- Its slice of segments. -/
theorem LX.form (h : LX kl kd l d U sv ks rvs H N) : (l.segs = [] ∧ ∃ z, sv = .vs true z []) ∨ ∃ (a g i0 : Nat) (all : List (List AV)), sv = .rs a g i0 l.segs.length 1 ∧ lk H a = some (g, .arr 1 all) ∧ i0 + l.segs.length ≤ all.length ∧ U a ∧ a ≠ kl ∧ (aoK (.arr 1 all) = 2) := by
  obtain ⟨S, T, h1, h2, h3, h4, h5, h6⟩ := h
  have hlen := h2.len
  rcases h2.segs with ⟨e, z, e2⟩ | ⟨a, g, i0, all, f1, f2, f3, f4, f5, f6⟩
  · refine .inl ⟨?_, z, e2⟩
    rw [e] at hlen
    exact List.length_eq_zero_iff.1 hlen.symm
  · exact .inr ⟨a, g, i0, _, by rw [← hlen]; exact f1, f2, by rw [← hlen]; simpa using f4, h5 _ f6, ne_of_lk f2 h2.top (by simp), segs_kind f5⟩

/-- A segment put behind the others. -/
theorem LX.push {kg : Nat} {rv : AV} {s : Sg} {Tn : Nat → Prop} (h : LX kl kd l d U sv ks rvs H N) (hs : SgAt H Tn kg rv s) (hTn : ∀ j, Tn j → ¬ U j ∧ j < N) (hl : l'.segs = l.segs ++ [s]) (hn : N ≤ N')
    (ht : lk H' kl = some (0, .cells [.ptr kd 0 0, .s (ba l'.name), .i .i64 (l'.size : Nat), sv', .i .u64 (l'.last : Nat), .i .u64 (l'.fast : Nat)]))
    (hsv : ((∃ z, sv = .vs true z []) ∧ ∃ a, sv' = .rs a 0 0 1 1 ∧ lk H' a = some (0, .arr 1 [[.ptr kg 0 0]]) ∧ N ≤ a ∧ a < N') ∨
      ∃ (a g i0 : Nat) (all : List (List AV)), sv = .rs a g i0 l.segs.length 1 ∧ lk H a = some (g, .arr 1 all) ∧ sv' = .rs a (g + 1) 0 (l.segs.length + 1) 1 ∧ lk H' a = some (g + 1, .arr 1 ((all.drop i0).take l.segs.length ++ [[.ptr kg 0 0]])))
    (ho : ∀ j, j < N → j ≠ kl → (∀ g i0 n, sv ≠ .rs j g i0 n 1) → lk H' j = lk H j) :
    LX kl kd l' d (fun j => U j ∨ Tn j ∨ (N ≤ j ∧ j < N')) sv' (ks ++ [kg]) (fun k => if k = kg then rv else rvs k) H' N' := by
  obtain ⟨S, T, h1, h2, h3, h4, h5, h6⟩ := h
  have hlen := h2.len
  have hkgU : ¬ U kg := (hTn kg hs.topT).1
  have hTN : ∀ j, T j → j < N := fun j hj => h6 j (h5 j hj)
  have segT : ∀ a g i0 nn, sv = .rs a g i0 nn 1 → T a ∧ ∃ all, all ≠ [] ∧ lk H a = some (g, .arr 1 (all.map slRow)) := fun a g i0 nn e => by
    rcases h2.segs with ⟨_, z, e2⟩ | ⟨a', g', j0, all, f1, f2, f3, f4, f5, f6⟩
    · rw [e] at e2; cases e2
    · rw [e] at f1
      injection f1 with f11 f12
      subst f11 f12
      exact ⟨f6, all, f5, f2⟩
  -- what is of another kind stays
  have stay : ∀ j x, j < N → j ≠ kl → lk H j = some x → aoK x.2 ≠ 2 → lk H' j = lk H j := fun j x hj hk hx hkx => ho j hj hk fun g i0 nn e => by
    obtain ⟨_, all, e1, e2⟩ := segT j g i0 nn e
    rw [hx] at e2
    cases e2
    exact hkx (segs_kind e1)
  have stayS : ∀ j, S j → lk H' j = lk H j := fun j hj => ho j (h6 j (h4 j hj)) (fun e => h3 j hj (e ▸ h2.topT)) fun g i0 nn e => h3 j hj (segT j g i0 nn e).1
  have hkg : kg ≠ kl := fun e => hkgU (e ▸ h5 _ h2.topT)
  have hknew : kg ∉ ks := fun e => by
    obtain ⟨i, hi⟩ := List.getElem?_of_mem e
    have hi2 := (List.getElem?_eq_some_iff.1 hi).1
    have := (h2.seg i kg _ hi (List.getElem?_eq_getElem (by omega))).topT
    exact hkgU (h5 _ this)
  have hrec : ∀ {P : Nat → Prop} {rv0 : AV} {recs : List Bs}, (∀ j, P j → j < N ∧ j ≠ kl) → RecsAt H P rv0 recs → RecsAt H' P rv0 recs := fun {P rv0 recs} hP hr => hr.kinds (fun j x hj hx hk => stay j x (hP j hj).1 (hP j hj).2 hx (by omega)) (fun j g nn hj e => by
      rcases hr with ⟨_, e3⟩ | ⟨a, g', vs, f0, f1, f2, f3, f4, f5⟩
      · rw [e] at e3; cases e3
      · rw [e] at f1
        injection f1 with f1
        subst f1
        exact stay j _ (hP j f3).1 (hP j f3).2 f2 (by simp only [recs_kind f0 f4 f5]; omega)) fun _ h => h
  have hrT : ∀ {rv0 : AV} {recs : List Bs}, RecsAt H T rv0 recs → RecsAt H' T rv0 recs := fun {rv0 recs} hr => hr.kinds (fun j x hj hx hk => stay j x (hTN j hj) (ne_of_kind hx h2.top fun e => by rw [e] at hk; simp [aoK] at hk) hx (by omega)) (fun j g nn hj e => by
      rcases hr with ⟨_, e3⟩ | ⟨a, g', vs, f0, f1, f2, f3, f4, f5⟩
      · rw [e] at e3; cases e3
      · rw [e] at f1
        injection f1 with f1
        subst f1
        exact stay j _ (hTN j f3) (ne_of_kind f2 h2.top (by rw [recs_kind f0 f4 f5]; simp [aoK])) f2 (by simp only [recs_kind f0 f4 f5]; omega)) fun _ h => h
  let T' : Nat → Prop := fun j => T j ∨ Tn j ∨ (N ≤ j ∧ j < N')
  have eS : ∀ k, k ∈ ks → ¬ k = kg := fun k hk e => hknew (e ▸ hk)
  refine ⟨S, T', h1.frame stayS hn, ⟨ht, .inl h2.topT, ?_, by rw [hl]; simp [hlen], fun i k s' e1 e2 => ?_, ?_, fun k k' a g nn g' nn' e1 e2 e3 e4 => ?_⟩, fun j hj e => ?_, fun j hj => .inl (h4 j hj), fun j hj => hj.imp (h5 j) id, fun j hj => ?_⟩
  · rcases hsv with ⟨⟨z, e1⟩, a, e2, e3, e4, e5⟩ | ⟨a, g, i0, all, e1, e2, e3, e4⟩
    · have hk0 : ks = [] := by
        rcases h2.segs with ⟨e, _⟩ | ⟨a', g', j0, all, f1, _⟩
        · exact e
        · rw [e1] at f1; cases f1
      subst hk0
      exact .inr ⟨a, 0, 0, [kg], by simpa using e2, by simpa [slRow] using e3, by simp, by simp, by simp, .inr (.inr ⟨e4, e5⟩)⟩
    · rcases h2.segs with ⟨_, z, f1⟩ | ⟨a', g', j0, al, f1, f2, f3, f4, f5, f6⟩
      · rw [e1] at f1; cases f1
      · rw [e1] at f1
        injection f1 with f11 f12 f13 f14
        subst f11 f12 f13
        rw [e2] at f2
        cases f2
        refine .inr ⟨a, g + 1, 0, ks ++ [kg], by rw [e3]; simp [hlen], ?_, by rw [List.drop_zero, List.take_length], by simp, by simp, .inl f6⟩
        rw [e4, ← hlen, ← List.map_drop, ← List.map_take, f3]
        simp [slRow]
  · by_cases hi : i < ks.length
    · rw [List.getElem?_append_left hi] at e1
      rw [hl, List.getElem?_append_left (by omega)] at e2
      have hg := h2.seg i k s' e1 e2
      have hkn := eS k (List.mem_of_getElem? e1)
      simp only [if_neg hkn]
      refine ⟨(stay k _ (hTN k hg.topT) (ne_of_lk hg.top h2.top (by simp)) hg.top (by simp [aoK])).trans hg.top, .inl hg.topT, (hrT hg.recs).mono (fun _ _ => rfl) fun _ => .inl⟩
    · have h7 := (List.getElem?_eq_some_iff.1 e1).1
      simp at h7
      obtain rfl : i = ks.length := by omega
      rw [List.getElem?_append_right (Nat.le_refl _), Nat.sub_self] at e1
      rw [hl, List.getElem?_append_right (by omega), hlen, Nat.sub_self] at e2
      simp at e1 e2
      subst e1 e2
      simp only [if_true]
      refine ⟨(stay kg _ (hTn kg hs.topT).2 hkg hs.top (by simp [aoK])).trans hs.top, .inr (.inl hs.topT), (hrec (fun j hj => ⟨(hTn j hj).2, fun e => (hTn j hj).1 (e ▸ h5 _ h2.topT)⟩) hs.recs).mono (fun _ _ => rfl) fun _ h => .inr (.inl h)⟩
  · rw [List.nodup_append]
    refine ⟨h2.inj, by simp, fun a ha b hb => ?_⟩
    simp at hb
    subst hb
    exact eS a ha
  · have arrT : ∀ k a g nn, k ∈ ks → rvs k = .rs a g 0 nn 1 → T a := fun k a g nn hk e => by
      obtain ⟨i, hi⟩ := List.getElem?_of_mem hk
      have hi2 := (List.getElem?_eq_some_iff.1 hi).1
      have hr := (h2.seg i k _ hi (List.getElem?_eq_getElem (by omega))).recs
      rcases hr with ⟨_, e3⟩ | ⟨a', g', vs, f0, f1, f2, f3, f4, f5⟩
      · rw [e] at e3; cases e3
      · rw [e] at f1
        injection f1 with f1
        exact f1 ▸ f3
    have arrN : ∀ a g nn, rv = .rs a g 0 nn 1 → Tn a := fun a g nn e => by
      rcases hs.recs with ⟨_, e3⟩ | ⟨a', g', vs, f0, f1, f2, f3, f4, f5⟩
      · rw [e] at e3; cases e3
      · rw [e] at f1
        injection f1 with f1
        exact f1 ▸ f3
    rw [List.mem_append, List.mem_singleton] at e1 e2
    rcases e1 with e1 | rfl <;> rcases e2 with e2 | rfl
    · simp only [if_neg (eS k e1)] at e3
      simp only [if_neg (eS k' e2)] at e4
      exact h2.rinj k k' a g nn g' nn' e1 e2 e3 e4
    · simp only [if_neg (eS k e1)] at e3
      simp only [if_true] at e4
      exact absurd (h5 _ (arrT k a g nn e1 e3)) (hTn a (arrN a _ _ e4)).1
    · simp only [if_true] at e3
      simp only [if_neg (eS k' e2)] at e4
      exact absurd (h5 _ (arrT k' a _ _ e2 e4)) (hTn a (arrN a _ _ e3)).1
    · rfl
  · rcases e with e | e | e
    · exact h3 j hj e
    · exact (hTn j e).1 (h4 j hj)
    · have := h6 j (h4 j hj); omega
  · rcases hj with hj | hj | hj
    · exact Nat.lt_of_lt_of_le (h6 j hj) hn
    · exact Nat.lt_of_lt_of_le (hTn j hj).2 hn
    · exact hj.2

end Ab
end Go.Proofs.YtmbbnoipoifhhaaGreatDoor
