/-
  DERIVED. Calls by what they answer; lengths of slices.
  Conditions: none of a program's.
-/
import Derived.Test.YtecjchghapgdeaaF6
import Derived.Test.YtecjchghapgdeaaAbG
set_option linter.all false
set_option maxHeartbeats 4000000
namespace Go.Proofs.Ytecjchghapgdeaa
namespace Ab
set_option maxRecDepth 100000

theorem Sp.cW {K n : Nat} {g : FuncId} {args : List AV} {hp : Hp} {nx : Nat} {Q' Q : AV → Hp → Nat → Prop} (h : Sp K n g args hp nx Q') (hq : ∀ r h' n', Q' r h' n' → Q r h' n') : Ab.cW (callA cfg K n g args hp nx) Q := by
  obtain ⟨r, h', n', h1, h2⟩ := h
  exact ⟨r, h', n', h1, hq _ _ _ h2⟩
theorem Sp.beside {K n : Nat} {g : FuncId} {args : List AV} {nx : Nat} {Q' : AV → Hp → Nat → Prop} {dst : Option Nat} {Q : Eff → Nat → Prop} (h : Sp K n g args [] nx Q') (hq : ∀ r h' n', Q' r h' n' → besideE dst Q r h' n') : Ab.cW (callA cfg K n g args [] nx) (besideE dst Q) := h.cW hq

/-- What holds of the heap at a call. -/
theorem cW_at {K n : Nat} {g : FuncId} {args : List AV} {H : Hp} {N : Nat} {Q : AV → Hp → Nat → Prop} (P : Hp → Prop) (hP : P H) (h : P H → Ab.cW (callA cfg K n g args H N) Q) : Ab.cW (callA cfg K n g args H N) Q := h hP

def sliceT (P : Program) (t : TypeId) : Bool := match P.underlying t with
  | some (.slice _) => true
  | _ => false
def strT (P : Program) (t : TypeId) : Bool := match P.underlying t with
  | some .string => true
  | _ => false
def mapT (P : Program) (t : TypeId) : Bool := match P.underlying t with
  | some (.map _ _) => true
  | _ => false
theorem lenA_sl {P : Program} {get : Ref → Option AO} {t : TypeId} {x : AV} (h : sliceT P t = true) : lenA P get t x = (slLen x).map fun n => .i .i64 (n : Nat) := by
  unfold sliceT at h
  unfold lenA
  cases hu : P.underlying t with
  | none => rw [hu] at h; cases h
  | some d =>
    rw [hu] at h
    cases d <;> first | (cases h; done) | (cases x <;> rfl)
theorem lenA_str {P : Program} {get : Ref → Option AO} {t : TypeId} {x : ByteArray} (h : strT P t = true) : lenA P get t (.s x) = some (.i .i64 (x.size : Nat)) := by
  unfold strT at h
  unfold lenA
  cases hu : P.underlying t with
  | none => rw [hu] at h; cases h
  | some d =>
    rw [hu] at h
    cases d <;> first | (cases h; done) | rfl
theorem lenA_map0 {P : Program} {get : Ref → Option AO} {t : TypeId} (h : mapT P t = true) : lenA P get t (.mp none) = some (.i .i64 (0 : Nat)) := by
  unfold mapT at h
  unfold lenA
  cases hu : P.underlying t with
  | none => rw [hu] at h; cases h
  | some d =>
    rw [hu] at h
    cases d <;> first | (cases h; done) | rfl
theorem lenA_map {P : Program} {get : Ref → Option AO} {t : TypeId} {k : Nat} (h : mapT P t = true) : lenA P get t (.mp (some k)) = (match get (.h k 0) with
    | some (.mp es) => some (.i .i64 (es.length : Nat))
    | _ => none) := by
  unfold mapT at h
  unfold lenA
  cases hu : P.underlying t with
  | none => rw [hu] at h; cases h
  | some d =>
    rw [hu] at h
    cases d <;> first | (cases h; done) | rfl
@[simp] theorem slLen_vs {z : Bool} {sz : Nat} {rows : List (List AV)} : slLen (.vs z sz rows) = some rows.length := rfl
@[simp] theorem slLen_rs {k g i0 len sz : Nat} : slLen (.rs k g i0 len sz) = some len := rfl
attribute [simp] sliceT strT mapT lenA_str lenA_map0 lenA_map
/-- A slice's length is told, whatever it is. -/
theorem SV.len' {sz : Nat} {hp : Hp} {S : Nat → Prop} {v : AV} {rows : List (List AV)} (h : SV sz hp S v rows) : slLen v = some rows.length := by
  rcases h with ⟨rfl, z, rfl⟩ | ⟨a, g, i0, all, rfl, _⟩ <;> rfl

end Ab
end Go.Proofs.Ytecjchghapgdeaa

/-
  DERIVED. The document's disk behind what is done to it: a way more, a file more, a file turned.
  Conditions: none of a program's.
-/
namespace Go.Proofs.Ytecjchghapgdeaa
namespace Ab
set_option maxRecDepth 100000
set_option linter.all false

theorem DRep.same {d : Dk} {k : Nat} {hp : Hp} {nx nx' : Nat} {S : Nat → Prop} (h : DRep hp nx k d S) (hx : nx ≤ nx') : DRep hp nx' k d (grw S nx nx') := by
  obtain ⟨hS, fv, wv, fr, wr, h⟩ := h
  exact ⟨fun j hj => hj.elim (fun hj => Nat.lt_of_lt_of_le (hS j hj) hx) (fun hj => hj.2), fv, wv, fr, wr, h.turn (fun _ _ _ => rfl) (fun _ h => .inl h) h.top (.inl ⟨rfl, rfl, rfl⟩) (.inl ⟨rfl, rfl, rfl⟩)⟩
theorem DDk.stopped {d : Dk} {k : Nat} {hp hp1 : Hp} {S : Nat → Prop} {fv wv : AV} {fr wr : List (List AV)} (h : DDk hp k fv wv fr wr d S) (ho : Only k (.cells [.i .i64 (d.quota : Nat), fv, wv, .i .i64 d.stop1.left, .b d.stop1.dead]) hp hp1) : DDk hp1 k fv wv fr wr d.stop1 S :=
  h.turn (fun j _ hj => ho.ne hj) (fun _ h => h) (by rw [stop1_quota]; exact ho.lk) (.inl ⟨rfl, rfl, stop1_files d⟩) (.inl ⟨rfl, rfl, stop1_ways d⟩)
theorem DDk.rep {d : Dk} {k : Nat} {hp : Hp} {nx nx' : Nat} {S : Nat → Prop} {fv wv : AV} {fr wr : List (List AV)} (h : DDk hp k fv wv fr wr d S) (hS : ∀ j, S j → j < nx) (hx : nx ≤ nx') : DRep hp nx' k d (grw S nx nx') :=
  DRep.same ⟨hS, fv, wv, fr, wr, h⟩ hx

theorem grw_lt {S : Nat → Prop} {nx nx' : Nat} (hS : ∀ j, S j → j < nx) (hx : nx ≤ nx') : ∀ j, grw S nx nx' j → j < nx' := fun j hj => hj.elim (fun hj => Nat.lt_of_lt_of_le (hS j hj) hx) (fun hj => hj.2)
theorem DDk.widen {d : Dk} {k : Nat} {hp : Hp} {S S' : Nat → Prop} {fv wv : AV} {fr wr : List (List AV)} (h : DDk hp k fv wv fr wr d S) (hS : ∀ j, S j → S' j) : DDk hp k fv wv fr wr d S' :=
  h.turn (fun _ _ _ => rfl) hS h.top (.inl ⟨rfl, rfl, rfl⟩) (.inl ⟨rfl, rfl, rfl⟩)
/-- What was made later is new, too. -/
theorem DDk.rep2 {d : Dk} {k : Nat} {hp : Hp} {a b nx nx' : Nat} {S : Nat → Prop} {fv wv : AV} {fr wr : List (List AV)} (h : DDk hp k fv wv fr wr d (grw S a b)) (hS : ∀ j, S j → j < nx) (h1 : nx ≤ a) (h2 : b ≤ nx') (h3 : nx ≤ nx') : DRep hp nx' k d (grw S nx nx') :=
  ⟨grw_lt hS h3, fv, wv, fr, wr, h.widen fun j hj => hj.elim .inl fun hj => .inr ⟨by omega, by omega⟩⟩

/-- What is made later leaves what was. -/
theorem low_up {H H0 : Hp} {b q : Nat} {x : Nat × AO} (h : ∀ j, j < b → lk H j = lk H0 j) (hq : b ≤ q) : ∀ j, j < b → lk (up H q x) j = lk H0 j := fun j hj => by
  rw [lk_set, if_neg (by omega)]
  exact h j hj
theorem low_refl {H : Hp} {b : Nat} : ∀ j, j < b → lk H j = lk H j := fun _ _ => rfl
theorem DDk.low {d : Dk} {k b : Nat} {hp H : Hp} {S : Nat → Prop} {fv wv : AV} {fr wr : List (List AV)} (h : DDk hp k fv wv fr wr d S) (hS : ∀ j, S j → j < b) (hl : ∀ j, j < b → lk H j = lk hp j) : DDk H k fv wv fr wr d S :=
  h.turn (fun j hj _ => hl j (hS j hj)) (fun _ h => h) ((hl k (hS k h.topS)).trans h.top) (.inl ⟨rfl, rfl, rfl⟩) (.inl ⟨rfl, rfl, rfl⟩)

/-- The way as it is now. -/
theorem DDk.nowv {N : Nat} {d : Dk} {k : Nat} {hp : Hp} {S : Nat → Prop} {fv wv : AV} {fr wr : List (List AV)} (h : DDk hp k fv wv fr wr d S) (hI : d.Inv N) : ∃ a b, wr[wr.length - 1]? = some [a, b] ∧ SV 1 hp S a (nameRows d.now) ∧ SV 1 hp S b (fiRows d.now) := by
  obtain ⟨row, hrow, a, b, rfl, h2, h3⟩ := h.wr.get (now_at hI.ne)
  rw [← h.wr.1] at hrow
  exact ⟨a, b, hrow, h2, h3⟩

theorem Two.wr {H : Hp} {lo hi : Nat} {oa ob : AV} {w : Way} {S : Nat → Prop} (h : Two H lo hi oa ob w) (hS : ∀ j, lo ≤ j → j < hi → S j) : WR H S [oa, ob] w := by
  rcases h with ⟨rfl, rfl, rfl⟩ | ⟨ka, ga, kb, gb, rfl, rfl, h3, h4, h5, h6, h7, h8, h9⟩
  · exact ⟨_, _, rfl, .inl ⟨rfl, 0, rfl⟩, .inl ⟨rfl, 0, rfl⟩⟩
  · exact ⟨_, _, rfl, .inr ⟨ka, ga, 0, nameRows w, by simp, h3, by rw [List.drop_zero]; exact List.take_length, by simp, hS _ h6 h7⟩, .inr ⟨kb, gb, 0, fiRows w, by simp, h4, by rw [List.drop_zero]; exact List.take_length, by simp, hS _ h8 h9⟩⟩
theorem Two.mv1 {H : Hp} {lo hi : Nat} {oa ob : AV} {out : Way} (h : Two H lo hi oa ob out) : oa.mv = true := okc_mv h.ok1
theorem Two.mv2 {H : Hp} {lo hi : Nat} {oa ob : AV} {out : Way} (h : Two H lo hi oa ob out) : ob.mv = true := okc_mv h.ok2
theorem WR.mono {hp hp' : Hp} {S S' : Nat → Prop} {r : List AV} {w : Way} (h : WR hp S r w) (hf : ∀ j, S j → lk hp' j = lk hp j) (hS : ∀ j, S j → S' j) : WR hp' S' r w := by
  obtain ⟨a, b, h1, h2, h3⟩ := h
  exact ⟨a, b, h1, h2.mono hf hS, h3.mono hf hS⟩

/-- Behind a change of the names. -/
theorem push_end {N N1 N2 k : Nat} {H H1 H2 : Hp} {d : Dk} {S : Nat → Prop} {fv wv wv' oa ob : AV} {fr wr : List (List AV)} {w' : Way} (h : DDk H k fv wv fr wr d S) (hS : ∀ j, S j → j < N) (h1 : N ≤ N1)
    (f1 : ∀ j, j < N → lk H1 j = lk H j) (t : Two H1 N N1 oa ob w') (h2 : N1 ≤ N2) (top : lk H2 k = some (0, .cells [.i .i64 (d.quota : Nat), fv, wv', .i .i64 d.left, .b d.dead]))
    (sv : SV 2 H2 (fun j => N1 ≤ j ∧ j < N2) wv' (wr ++ [[oa, ob]])) (f2 : ∀ j, j < N1 → j ≠ k → lk H2 j = lk H1 j) : DDk H2 k fv wv' fr (wr ++ [[oa, ob]]) (d.with w') (grw S N N2) := by
  have hk := hS k h.topS
  have hf : ∀ j, S j → j ≠ k → lk H2 j = lk H j := fun j hj hjk => (f2 j (Nat.lt_of_lt_of_le (hS j hj) h1) hjk).trans (f1 j (hS j hj))
  refine h.turn hf (fun _ h => .inl h) top (.inl ⟨rfl, rfl, rfl⟩) (.inr ⟨sv.mono (fun _ _ => rfl) fun j hj => .inr ⟨by omega, hj.2⟩, ?_⟩)
  refine (h.wr.imp fun r x hr => hr.of h.top hf fun _ h => .inl h).snoc ?_
  exact (t.wr (S := fun j => N ≤ j ∧ j < N1) fun j a b => ⟨a, b⟩).mono (fun j hj => f2 j hj.2 (by omega)) fun j hj => .inr ⟨hj.1, by omega⟩

/-- Behind a file that was made. -/
theorem file_end {N N' k q g : Nat} {H H' : Hp} {d : Dk} {S : Nat → Prop} {fv wv : AV} {fr wr : List (List AV)} (h : DDk H k fv wv fr wr d S) (hS : ∀ j, S j → j < N) (hN : N ≤ N')
    (top : lk H' k = some (0, .cells [.i .i64 (d.quota : Nat), .rs q g 0 (fr.length + 1) 2, wv, .i .i64 d.left, .b d.dead])) (hq : lk H' q = some (g, .arr 2 (fr ++ [[.vs true 0 [], .i .i64 (0 : Nat)]]))) (q1 : N ≤ q) (q2 : q < N')
    (f : ∀ j, j < N → j ≠ k → lk H' j = lk H j) : DDk H' k (.rs q g 0 (fr.length + 1) 2) wv (fr ++ [[.vs true 0 [], .i .i64 (0 : Nat)]]) wr { d with files := d.files ++ [⟨[], 0⟩] } (grw S N N') := by
  have hf : ∀ j, S j → j ≠ k → lk H' j = lk H j := fun j hj => f j (hS j hj)
  refine h.turn hf (fun _ h => .inl h) top (.inr ⟨.inr ⟨q, g, 0, _, by simp, hq, by rw [List.drop_zero]; exact List.take_length, by simp, .inr ⟨q1, q2⟩⟩, ?_⟩) (.inl ⟨rfl, rfl, rfl⟩)
  exact (h.fr.imp fun r x hr => hr.of h.top hf fun _ h => .inl h).snoc ⟨.vs true 0 [], rfl, .inl ⟨rfl, 0, rfl⟩⟩

/-- Behind a file that turned. -/
theorem set_end {N N' k i x : Nat} {H H' : Hp} {d : Dk} {S : Nat → Prop} {fv fv' wv v : AV} {fr wr : List (List AV)} {b : Bs} (h : DDk H k fv wv fr wr d S) (hS : ∀ j, S j → j < N) (hN : N ≤ N')
    (top : lk H' k = some (0, .cells [.i .i64 (d.quota : Nat), fv', wv, .i .i64 d.left, .b d.dead])) (sv : SV 2 H' (fun j => N ≤ j ∧ j < N') fv' (fr.set i [v, .i .i64 (x : Nat)]))
    (f : ∀ j, j < N → j ≠ k → lk H' j = lk H j) (hv : SV 1 H' (grw S N N') v (byteRows b)) : DDk H' k fv' wv (fr.set i [v, .i .i64 (x : Nat)]) wr (d.setF i ⟨b, x⟩) (grw S N N') := by
  have hf : ∀ j, S j → j ≠ k → lk H' j = lk H j := fun j hj => f j (hS j hj)
  refine h.turn hf (fun _ h => .inl h) top (.inr ⟨sv.mono (fun _ _ => rfl) fun j hj => .inr hj, ?_⟩) (.inl ⟨rfl, rfl, rfl⟩)
  exact (h.fr.imp fun r x hr => hr.of h.top hf fun _ h => .inl h).set ⟨v, rfl, hv⟩
theorem DDk.rows2 {H : Hp} {k : Nat} {d : Dk} {S : Nat → Prop} {fv wv : AV} {fr wr : List (List AV)} (h : DDk H k fv wv fr wr d S) : ∀ r ∈ fr, r.length = 2 := fun r hr => by
  obtain ⟨i, hi⟩ := List.mem_iff_getElem?.1 hr
  have hl : i < d.files.length := by rw [← h.fr.1]; exact (List.getElem?_eq_some_iff.1 hi).1
  obtain ⟨v, rfl, _⟩ := h.fr.2 i r _ hi (List.getElem?_eq_getElem hl)
  rfl

end Ab
end Go.Proofs.Ytecjchghapgdeaa
