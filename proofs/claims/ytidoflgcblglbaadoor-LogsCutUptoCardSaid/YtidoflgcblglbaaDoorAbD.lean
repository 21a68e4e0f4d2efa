/-
  DERIVED. A CALL's STATEMENT; FREEZING: what is told of a value as it is now.
  Conditions: none of a program's.
-/
import Derived.Test.YtidoflgcblglbaaDoorAbC
import Derived.Calls
set_option linter.all false
set_option maxHeartbeats 4000000
namespace Go.Proofs.YtidoflgcblglbaaDoor
namespace Ab
variable [WX]

/-- What a step does to the numbers: those that it does not use stay new. -/
def Keeps (num : Nat → Prop) (β β' : BMap) : Prop := ∀ n, Fr β n → ¬ num n → Fr β' n

theorem Keeps.refl (num : Nat → Prop) (β : BMap) : Keeps num β β := fun _ h _ => h

theorem Keeps.trans {p q r : Nat → Prop} {a b c : BMap} (h : Keeps p a b) (k : Keeps q b c) (hp : ∀ n, p n → r n) (hq : ∀ n, q n → r n) : Keeps r a c :=
  fun n hn hr => k n (h n hn fun x => hr (hp n x)) fun x => hr (hq n x)

theorem NewAt.keeps {n : Nat} {I : Nat → Prop} {get : GetF} {w : World} {β β' : BMap} (h : NewAt n get β β') (hs : Sim I β get w) : Keeps (· = n) β β' := by
  intro m hm hne
  have hno : ∀ k g o, get (.h k g) = some o → m ≠ k := fun k g o hk e => by
    subst e
    obtain ⟨p, hp, _⟩ := hs.obj _ _ hk
    rw [hm.1 g] at hp; cases hp
  exact ⟨fun g => h (.h m g) hne (hm.1 g) hno, fun d => h (.l d m) hne (hm.2 d) hno⟩

/-- Numbers that are new. -/
def FrIn (β : BMap) (a b : Nat) : Prop := ∀ n, a ≤ n → n < b → Fr β n

/-- A value per argument. -/
def Args (I : Nat → Prop) (w : World) (β : BMap) (vals : Array Value) (args : List AV) : Prop :=
  vals.size = args.length ∧ ∀ (j : Nat) (v : Value) (x : AV), vals[j]? = some v → args[j]? = some x → RV I w β v x

def CallOk (P : Program) (call : CallT) : Prop :=
  ∀ f args hp nx r hp' nx', call f args hp nx = some (r, hp', nx') → nx ≤ nx' ∧
    (∀ k g o, lkg hp' k g = some o → (∃ g' o', lkg hp k g' = some o') ∨ (nx ≤ k ∧ k < nx')) ∧
    (∃ fn c, P.funcs[f]? = some fn ∧ fn.body = some c) ∧
    ∀ I β w vals, Sim I β (hget hp) w → FrIn β nx nx' → Args I w β vals args →
      Calls P f vals w fun e w' => ∃ v I' β', e = .returned v ∧ RV I' w' β' v r ∧ Sim I' β' (hget hp') w' ∧ Step I β (hget hp) w I' β' (hget hp') w' ∧
        Keeps (fun n => nx ≤ n ∧ n < nx') β β'

theorem Sim.sub {I : Nat → Prop} {β : BMap} {get get' : GetF} {w : World} (hs : Sim I β get w) (h : ∀ r o, get' r = some o → get r = some o) : Sim I β get' w :=
  ⟨fun r o hr => hs.obj r o (h r o hr), fun r r' o o' p p' h1 h2 => hs.inj r r' o o' p p' (h r o h1) (h r' o' h2),
    fun b hb => ⟨(hs.imm b hb).1, fun ⟨r, o, p, a, b', c⟩ => (hs.imm b hb).2 ⟨r, o, p, h r o a, b', c⟩⟩, fun k g o hk => hs.gen k g o (h _ o hk), hs.wx⟩

/-- A step on a part of the objects is one on all. -/
theorem combine {I I' : Nat → Prop} {β β' : BMap} {get get0 get0' G : GetF} {w w' : World} (hs : Sim I β get w) (h0 : ∀ r o, get0 r = some o → get r = some o)
    (hs' : Sim I' β' get0' w') (hst : Step I β get0 w I' β' get0' w') (hG : ∀ r o, G r = some o → get0' r = some o ∨ (get r = some o ∧ get0 r = none))
    (hgen : ∀ k g o, G (.h k g) = some o → get0' (.h k g) = none → ∀ g', g < g' → β' (.h k g') = none) :
    Sim I' β' G w' ∧ Step I β get w I' β' G w' := by
  have hrest : ∀ r o, get r = some o → get0 r = none → ∃ p, β r = some p ∧ β' r = some p ∧ OR I w β p o ∧ p.1 < w.heap.size ∧ ¬ Own get0 β p.1 := fun r o hr hn => by
    obtain ⟨p, hp, ho⟩ := hs.obj r o hr
    refine ⟨p, hp, hst.hβ r p hp, ho, ho.lt, fun ⟨r', o', p', q1, q2, q3⟩ => ?_⟩
    have := hs.inj r r' o o' p p' hr (h0 r' o' q1) hp q2 q3.symm
    subst this
    rw [hn] at q1; cases q1
  have hblk : ∀ r o p, get r = some o → get0 r = none → β r = some p → w'.heap[p.1]? = w.heap[p.1]? := fun r o p hr hn hp => by
    obtain ⟨p', e1, _, _, e4, e5⟩ := hrest r o hr hn
    rw [hp] at e1; cases e1
    exact hst.keep.block _ e4 e5
  have hownG : ∀ b, Own G β' b → Own get0' β' b ∨ ∃ r o p, get r = some o ∧ get0 r = none ∧ β r = some p ∧ p.1 = b := fun b ⟨r, o, p, q1, q2, q3⟩ => by
    rcases hG r o q1 with h | ⟨h, hn⟩
    · exact .inl ⟨r, o, p, h, q2, q3⟩
    · obtain ⟨p', e1, e2, _⟩ := hrest r o h hn
      rw [q2] at e2; cases e2
      exact .inr ⟨r, o, p, h, hn, e1, q3⟩
  have hI : ∀ b, I b → w'.heap[b]? = w.heap[b]? := fun b hb => hst.keep.block b (hs.imm b hb).1 fun ⟨r, o, p, q1, q2, q3⟩ => (hs.imm b hb).2 ⟨r, o, p, h0 r o q1, q2, q3⟩
  refine ⟨⟨fun r o hr => ?_, fun r r' o o' p p' hr hr' hp hp' he => ?_, fun b hb => ⟨(hs'.imm b hb).1, fun hown => ?_⟩, fun k g o hk g' hg' => ?_, hs'.wx⟩,
    ⟨hst.hI, hst.hβ, ⟨hst.keep.os, hst.keep.tape, hst.keep.output, hst.keep.size, hst.keep.csz, fun b hb hn => hst.keep.block b hb fun ⟨r, o, p, q1, q2, q3⟩ => hn ⟨r, o, p, h0 r o q1, q2, q3⟩⟩, fun b hb => ?_, fun b hb => ?_⟩⟩
  · rcases hG r o hr with h | ⟨h, hn⟩
    · exact hs'.obj r o h
    · obtain ⟨p, e1, e2, e3, _⟩ := hrest r o h hn
      exact ⟨p, e2, e3.mono (hblk r o p h hn e1) hst.hI hI hst.hβ hst.keep.csz⟩
  · have cross : ∀ r r' o o' p p', get0' r = some o → get r' = some o' → get0 r' = none → β' r = some p → β' r' = some p' → p.1 = p'.1 → False := by
      intro r r' o o' p p' hr hr' hn hp hp' he
      obtain ⟨p2, e1, e2, _, e4, e5⟩ := hrest r' o' hr' hn
      rw [hp'] at e2; cases e2
      rcases hst.own p.1 ⟨r, o, p, hr, hp, rfl⟩ with h | h
      · exact e5 (he ▸ h)
      · omega
    rcases hG r o hr with h | ⟨h, hn⟩ <;> rcases hG r' o' hr' with h' | ⟨h', hn'⟩
    · exact hs'.inj r r' o o' p p' h h' hp hp' he
    · exact (cross r r' o o' p p' h h' hn' hp hp' he).elim
    · exact (cross r' r o' o p' p h' h hn hp' hp he.symm).elim
    · obtain ⟨p2, e1, e2, _⟩ := hrest r o h hn
      obtain ⟨p3, f1, f2, _⟩ := hrest r' o' h' hn'
      rw [hp] at e2; cases e2
      rw [hp'] at f2; cases f2
      exact hs.inj r r' o o' p p' h h' e1 f1 he
  · rcases hownG b hown with h | ⟨r, o, p, h, hn, hp, he⟩
    · exact (hs'.imm b hb).2 h
    · obtain ⟨p', e1, _, _, e4, e5⟩ := hrest r o h hn
      rw [hp] at e1; cases e1
      rcases hst.new b hb with q | q | q
      · exact (hs.imm b q).2 ⟨r, o, p, h, hp, he⟩
      · exact e5 (he ▸ q)
      · omega
  · cases hn : get0' (.h k g) with
    | none => exact hgen k g o hk hn g' hg'
    | some o2 => exact hs'.gen k g o2 hn g' hg'
  · rcases hownG b hb with h | ⟨r, o, p, h, hn, hp, he⟩
    · rcases hst.own b h with ⟨r, o, p, q1, q2, q3⟩ | q
      · exact .inl ⟨r, o, p, h0 r o q1, q2, q3⟩
      · exact .inr q
    · exact .inl ⟨r, o, p, h, hp, he⟩
  · rcases hst.new b hb with q | ⟨r, o, p, q1, q2, q3⟩ | q
    · exact .inl q
    · exact .inr (.inl ⟨r, o, p, h0 r o q1, q2, q3⟩)
    · exact .inr (.inr q)

theorem mapO_spec {α β : Type} {f : α → Option β} : ∀ {l : List α} {m : List β}, mapO f l = some m → m.length = l.length ∧ ∀ (j : Nat) (x : α) (y : β), l[j]? = some x → m[j]? = some y → f x = some y
  | [], m, h => by simp [mapO] at h; subst h; simp
  | x :: r, m, h => by
    simp only [mapO] at h
    cases hx : f x with
    | none => simp [hx] at h
    | some y =>
      cases hr : mapO f r with
      | none => simp [hx, hr] at h
      | some m' =>
        simp [hx, hr] at h; subst h
        obtain ⟨h1, h2⟩ := mapO_spec hr
        refine ⟨by simp [h1], fun j a b ha hb => ?_⟩
        cases j with
        | zero => simp at ha hb; subst ha; subst hb; exact hx
        | succ j => exact h2 j a b (by simpa using ha) (by simpa using hb)

/-- All blocks that are there. -/
def AllB (w : World) : Nat → Prop := fun b => b < w.heap.size

/-- A frozen value reads as it was: J: the blocks that the objects lie in, and what was immutable. -/
theorem frz_sound {I J : Nat → Prop} {w : World} {β : BMap} {get : GetF} (hs : Sim I β get w) (hIJ : ∀ b, I b → J b) (hO : ∀ b, Own get β b → J b) : ∀ {n : Nat} {v : Value} {a x : AV}, RV I w β v a → frz get n a = some x → RV J w noB v x
  | 0, v, a, x, _, h => by simp [frz] at h
  | n + 1, v, a, x, hv, h => by
    have hmono : ∀ {v : Value} {a : AV}, RV I w noB v a → RV J w noB v a := fun h => h.mono hIJ (fun _ _ => rfl) (fun _ _ h => h) fun _ => Nat.le_refl _
    have hmap : ∀ {vs : Array Value} {cs xs : List AV}, vs.size = cs.length → (∀ (j : Nat) (v : Value) (c : AV), vs[j]? = some v → cs[j]? = some c → RV I w β v c) → mapO (frz get n) cs = some xs →
        vs.size = xs.length ∧ ∀ (j : Nat) (v : Value) (c : AV), vs[j]? = some v → xs[j]? = some c → RV J w noB v c := by
      intro vs cs xs hl hh hm
      obtain ⟨m1, m2⟩ := mapO_spec hm
      refine ⟨by omega, fun j v c hv hc => ?_⟩
      have hj : j < cs.length := by rw [← m1]; exact (List.getElem?_eq_some_iff.1 hc).1
      exact frz_sound hs hIJ hO (hh j v _ hv (List.getElem?_eq_getElem hj)) (m2 j _ c (List.getElem?_eq_getElem hj) hc)
    cases hv with
    | undef => simp [frz] at h
    | b => simp [frz] at h; subst h; exact .b _ _
    | i => simp [frz] at h; subst h; exact .i _ _ _
    | s => simp [frz] at h; subst h; exact .s _ _
    | np => simp [frz] at h; subst h; exact .np _
    | nfn => simp [frz] at h; subst h; exact .nfn _
    | mpn => simp [frz] at h; subst h; exact .mpn _
    | agg _ vs cs hl hc hh =>
      simp only [frz] at h
      cases hm : mapO (frz get n) cs with
      | none => simp [hm] at h
      | some xs => simp [hm] at h; subst h; exact .agg _ _ _ (hmap hl hh hm).1 hc (hmap hl hh hm).2
    | tup _ vs cs hl hh =>
      simp only [frz] at h
      cases hm : mapO (frz get n) cs with
      | none => simp [hm] at h
      | some xs => simp [hm] at h; subst h; exact .tup _ _ _ (hmap hl hh hm).1 (hmap hl hh hm).2
    | vsn => simp [frz] at h; subst h; exact .vsn _ _
    | vs0 => simp [frz] at h; subst h; exact .vs0 _ _ _ _
    | vs _ b o len cap sz rows f hb hr hlen hcap k1 k2 => simp [frz] at h; subst h; exact .vs _ b o len cap sz rows f (hIJ b hb) hr hlen hcap k1 fun i j r c a1 a2 => hmono (k2 i j r c a1 a2)
    | vp _ b o cs f hb k1 k2 => simp [frz] at h; subst h; exact .vp _ b o cs f (hIJ b hb) k1 fun j c a1 => hmono (k2 j c a1)
    | fn _ f vs cs hl hh =>
      simp only [frz] at h
      cases hm : mapO (frz get n) cs with
      | none => simp [hm] at h
      | some xs => simp [hm] at h; subst h; exact .fn _ _ _ _ (hmap hl hh hm).1 (hmap hl hh hm).2
    | mp => simp [frz] at h
    | lp => simp [frz] at h
    | rs _ k g i0 len sz b o cap ad hb hcap hsz had =>
      simp only [frz] at h
      split at h
      · rename_i rows hrows
        cases hm : mapO (mapO (frz get n)) rows with
        | none => simp [hm] at h
        | some rows' =>
          simp [hm] at h; subst h
          have hrows' : rowsSz get sz (.rs k g i0 len sz) = some rows := by simp only [rowsSz, if_true]; exact hrows
          have hsh := rowsSz_sound hs (.rs (I := I) (w := w) β k g i0 len sz b o cap ad hb hcap hsz had) hrows'
          obtain ⟨m1, m2⟩ := mapO_spec hm
          obtain ⟨⟨base, cap', he, hc⟩, hl⟩ := hsh
          simp only [Value.slice.injEq] at he
          obtain ⟨e1, e2, e3⟩ := he
          have hl' : ∀ r ∈ rows', r.length = sz := fun r hr => by
            obtain ⟨j, hj⟩ := List.getElem?_of_mem hr
            have hjl : j < rows.length := by rw [← m1]; exact (List.getElem?_eq_some_iff.1 hj).1
            have := m2 j _ r (List.getElem?_eq_getElem hjl) hj
            rw [(mapO_spec this).1]
            exact hl _ (List.getElem_mem _)
          by_cases hnil : rows = []
          · subst hnil
            have : rows' = [] := List.eq_nil_of_length_eq_zero (by simpa using m1)
            subst this
            have : len = 0 := by simpa using e2
            subst this
            exact .vs0 _ _ _ _
          · rcases hc with hc | ⟨b', o', hb', hc⟩
            · exact absurd hc hnil
            · rw [hb'] at e1
              cases e1
              -- the block is the object's own
              have hlt : cap ≠ 0 := by
                intro h0
                have : rows.length = 0 := by omega
                exact hnil (List.eq_nil_of_length_eq_zero this)
              have had' := had.resolve_left hlt
              cases had'
              have hown : Own get β b := by
                simp only [rowsOf] at hrows
                split at hrows
                · rename_i sz' rr hg
                  exact ⟨_, _, _, hg, hb, rfl⟩
                · cases hrows
              have hex : ∀ (i j : Nat) (r : List AV) (c : AV), rows'[i]? = some r → r[j]? = some c → ∃ v, w.cell? ⟨b, o + i0 * sz + i * sz + j, none⟩ = some v ∧ cellV v = true ∧ RV J w noB v c := by
                intro i j r c hr hcc
                have hil : i < rows.length := by rw [← m1]; exact (List.getElem?_eq_some_iff.1 hr).1
                have hmr := m2 i _ r (List.getElem?_eq_getElem hil) hr
                obtain ⟨q1, q2⟩ := mapO_spec hmr
                have hjl : j < (rows[i]).length := by rw [← q1]; exact (List.getElem?_eq_some_iff.1 hcc).1
                have hf := flatten_get hl (List.getElem?_eq_getElem hil) (List.getElem?_eq_getElem hjl)
                obtain ⟨v, v1, v2, v3⟩ := hc _ _ hf
                exact ⟨v, by rw [Nat.add_assoc]; exact v1, v2, frz_sound hs hIJ hO v3 (q2 j _ c (List.getElem?_eq_getElem hjl) hcc)⟩
              refine .vs _ b (o + i0 * sz) len cap sz rows' (fun i j => (w.cell? ⟨b, o + i0 * sz + i * sz + j, none⟩).getD undef) (hO b hown) hl' (by omega) hcap (fun i j r c hr hcc => ?_) fun i j r c hr hcc => ?_
              · obtain ⟨v, v1, v2, _⟩ := hex i j r c hr hcc
                simp only [v1, Option.getD_some]; exact ⟨trivial, v2⟩
              · obtain ⟨v, v1, _, v3⟩ := hex i j r c hr hcc
                simp only [v1, Option.getD_some]; exact v3
      · cases h
    | ptr _ k g p b o hb =>
      simp only [frz] at h
      split at h
      · rename_i cs hg
        cases hm : mapO (frz get n) (cs.drop p) with
        | none => simp [hm] at h
        | some xs =>
          simp [hm] at h; subst h
          obtain ⟨pp, hpp, ho⟩ := hs.obj _ _ hg
          rw [hb] at hpp; cases hpp
          have hca := ho.cellsAt.drop p
          obtain ⟨m1, m2⟩ := mapO_spec hm
          have hex : ∀ (j : Nat) (c : AV), xs[j]? = some c → ∃ v, w.cell? ⟨b, o + p + j, none⟩ = some v ∧ cellV v = true ∧ RV J w noB v c := by
            intro j c hc
            have hj : j < (cs.drop p).length := by rw [← m1]; exact (List.getElem?_eq_some_iff.1 hc).1
            obtain ⟨v, v1, v2, v3⟩ := hca j _ (List.getElem?_eq_getElem hj)
            exact ⟨v, v1, v2, frz_sound hs hIJ hO v3 (m2 j _ c (List.getElem?_eq_getElem hj) hc)⟩
          refine .vp _ b (o + p) xs (fun j => (w.cell? ⟨b, o + p + j, none⟩).getD undef) (hO b ⟨_, _, _, hg, hb, rfl⟩) (fun j c hc => ?_) fun j c hc => ?_
          · obtain ⟨v, v1, v2, _⟩ := hex j c hc
            simp only [v1, Option.getD_some]; exact ⟨trivial, v2⟩
          · obtain ⟨v, v1, _, v3⟩ := hex j c hc
            simp only [v1, Option.getD_some]; exact v3
      · cases h
    | pe _ k g i p sz b o hb =>
      simp only [frz] at h
      split at h
      · rename_i sz' rows hg
        split at h
        · rename_i e; subst e
          split at h
          · rename_i row hrow
            cases hm : mapO (frz get n) (row.drop p) with
            | none => simp [hm] at h
            | some xs =>
              simp [hm] at h; subst h
              obtain ⟨pp, hpp, ho⟩ := hs.obj _ _ hg
              rw [hb] at hpp; cases hpp
              have hca := (ho.rowAt hrow).drop p
              obtain ⟨m1, m2⟩ := mapO_spec hm
              have hex : ∀ (j : Nat) (c : AV), xs[j]? = some c → ∃ v, w.cell? ⟨b, o + i * sz' + p + j, none⟩ = some v ∧ cellV v = true ∧ RV J w noB v c := by
                intro j c hc
                have hj : j < (row.drop p).length := by rw [← m1]; exact (List.getElem?_eq_some_iff.1 hc).1
                obtain ⟨v, v1, v2, v3⟩ := hca j _ (List.getElem?_eq_getElem hj)
                exact ⟨v, v1, v2, frz_sound hs hIJ hO v3 (m2 j _ c (List.getElem?_eq_getElem hj) hc)⟩
              refine .vp _ b (o + i * sz' + p) xs (fun j => (w.cell? ⟨b, o + i * sz' + p + j, none⟩).getD undef) (hO b ⟨_, _, _, hg, hb, rfl⟩) (fun j c hc => ?_) fun j c hc => ?_
              · obtain ⟨v, v1, v2, _⟩ := hex j c hc
                simp only [v1, Option.getD_some]; exact ⟨trivial, v2⟩
              · obtain ⟨v, v1, _, v3⟩ := hex j c hc
                simp only [v1, Option.getD_some]; exact v3
          · cases h
        · cases h
      · cases h

/-- A value that leads to no object. -/
theorem rf1_RV {I : Nat → Prop} {w : World} {β β' : BMap} {v : Value} {a : AV} (h : RV I w β v a) (hrf : rf1 a = true) : RV I w β' v a := by
  cases h with
  | b => exact .b _ _
  | i => exact .i _ _ _
  | s => exact .s _ _
  | np => exact .np _
  | nfn => exact .nfn _
  | mpn => exact .mpn _
  | vsn => exact .vsn _ _
  | vs0 => exact .vs0 _ _ _ _
  | vs _ b o len cap sz rows f hb hr hlen hcap k1 k2 => exact .vs _ b o len cap sz rows f hb hr hlen hcap k1 k2
  | vp _ b o cs f hb k1 k2 => exact .vp _ b o cs f hb k1 k2
  | fn _ f vs cs hl hh =>
    simp [rf1] at hrf
    subst hrf
    exact .fn _ f vs [] hl fun j v c _ hc => by simp at hc
  | _ => simp [rf1] at hrf

theorem rf_RV {I : Nat → Prop} {w : World} {β β' : BMap} {v : Value} {a : AV} (h : RV I w β v a) (hr : rf a = true) : RV I w β' v a := by
  cases a with
  | agg cs =>
    cases h with
    | agg _ vs _ hl hc hh =>
      simp only [rf, List.all_eq_true] at hr
      exact .agg _ _ _ hl hc fun j v c hv hcc => rf1_RV (hh j v c hv hcc) (hr c (List.mem_of_getElem? hcc))
  | _ => exact rf1_RV h hr

/-- A plain value. -/
theorem fl1_RV {I J : Nat → Prop} {w w' : World} {β β' : BMap} {v : Value} {a : AV} (h : RV I w β v a) (hr : fl1 a = true) : RV J w' β' v a := by
  cases h with
  | b => exact .b _ _
  | i => exact .i _ _ _
  | s => exact .s _ _
  | _ => simp [fl1] at hr

theorem fl_RV {I J : Nat → Prop} {w w' : World} {β β' : BMap} {v : Value} {a : AV} (h : RV I w β v a) (hr : fl a = true) : RV J w' β' v a := by
  cases a with
  | agg cs =>
    cases h with
    | agg _ vs _ hl hc hh =>
      simp only [fl, List.all_eq_true] at hr
      exact .agg _ _ _ hl hc fun j v c hv hcc => fl1_RV (hh j v c hv hcc) (hr c (List.mem_of_getElem? hcc))
  | tup cs =>
    cases h with
    | tup _ vs _ hl hh =>
      simp only [fl, List.all_eq_true] at hr
      exact .tup _ _ _ hl fun j v c hv hcc => fl1_RV (hh j v c hv hcc) (hr c (List.mem_of_getElem? hcc))
  | _ => exact fl1_RV h hr

end Ab
end Go.Proofs.YtidoflgcblglbaaDoor

/-
  DERIVED. AN OPERATION IN A REGION, A CALL AMONG THEM.
  Conditions: none of a program's.
-/
namespace Go.Proofs.YtidoflgcblglbaaDoor
namespace Ab
variable [WX]

/-- The state of a frame, and what is told of it. -/
structure SR (N : Nat) (I : Nat → Prop) (β : BMap) (st : St) (a : Act) (w : World) : Prop where
  env : ∀ t x, lk st.env t = some x → RV I w β (a.tmps.getD t undef) x
  sim : Sim I β st.get w
  size : a.tmps.size = N
  defers : a.defers = []

theorem SR.ev {N : Nat} {I : Nat → Prop} {β : BMap} {st : St} {a : Act} {w : World} (h : SR N I β st a w) (y : Operand) : RV I w β (a.eval y) (ev st.env y) := by
  cases y with
  | tmp t =>
    simp only [Act.eval, Ab.ev]
    cases hl : lk st.env t with
    | none => exact .undef _ _
    | some x => exact h.env t x hl
  | const v => exact ofC_RV _ _ _ v
  | global g => exact .undef _ _
  | func f => exact .fn _ f #[] [] rfl (by simp)

theorem lk_put (l : Hp) (j k : Nat) (v : Option (Nat × AO)) : lk (putH l j v) k = if k = j then v else lk l k := by
  cases v with
  | none => simp only [putH, lk_rm]
  | some v => simp only [putH, lk_up]
open Classical in
theorem lk_mergeK (h0 h acc : Hp) (j k : Nat) : lk (mergeK h0 h acc j) k = if k = j ∧ ¬ lk h0 k = lk h k then lk h k else lk acc k := by
  unfold mergeK
  by_cases hj : lk h0 j = lk h j
  · simp only [if_pos hj]
    rw [if_neg]
    rintro ⟨rfl, h2⟩
    exact h2 hj
  · simp only [if_neg hj, lk_put]
    by_cases hk : k = j
    · subst hk; simp [hj]
    · simp [hk]
open Classical in
theorem lk_merge (h0 h x : Hp) (k : Nat) : lk (mergeH h0 h x) k = if lk h0 k = lk h k then lk x k else lk h k := by
  have gen : ∀ (l : List Nat) (acc : Hp), lk (l.foldl (mergeK h0 h) acc) k = if k ∈ l ∧ ¬ lk h0 k = lk h k then lk h k else lk acc k := by
    intro l
    induction l with
    | nil => intro acc; simp
    | cons j l ih =>
      intro acc
      rw [List.foldl_cons, ih, lk_mergeK]
      by_cases hs : lk h0 k = lk h k
      · simp [hs]
      · by_cases hjk : k = j
        · subst hjk; simp [hs]
        · simp [hs, hjk]
  unfold mergeH
  rw [gen]
  by_cases hs : lk h0 k = lk h k
  · simp [hs]
  · have hm : k ∈ (h0 ++ h).map (·.1) := by
      by_cases h1 : k ∈ (h0 ++ h).map (·.1)
      · exact h1
      · exfalso
        have no : ∀ l : Hp, k ∉ l.map (·.1) → lk l k = none := by
          intro l
          induction l with
          | nil => intro _; rfl
          | cons e l ih =>
            intro hn
            obtain ⟨j, y⟩ := e
            simp only [List.map_cons, List.mem_cons, not_or] at hn
            have : ¬ j = k := fun e => hn.1 e.symm
            simp only [lk, if_neg this]
            exact ih hn.2
        simp only [List.map_append, List.mem_append, not_or] at h1
        exact hs ((no h0 h1.1).trans (no h h1.2).symm)
    simp only [hm, hs, not_false_eq_true, and_self, if_true, if_false]
open Classical in
/-- What is at a place behind a call on the heap. -/
noncomputable def turnG (h : Hp × Hp) (k g : Nat) (x : Option AO) : Option AO := if lk h.1 k = lk h.2 k then x else lkg h.2 k g
open Classical in
theorem turnG_app (h : Hp × Hp) (x : Hp) (k g : Nat) : lkg (if x = h.1 then h.2 else mergeH h.1 h.2 x) k g = turnG h k g (lkg x k g) := by
  unfold turnG
  by_cases hx : x = h.1
  · subst hx
    simp only [if_true]
    by_cases hs : lk h.1 k = lk h.2 k
    · simp only [hs, if_true]
      unfold lkg
      rw [hs]
    · simp only [if_neg hs]
  · simp only [if_neg hx]
    unfold lkg
    rw [lk_merge]
    by_cases hs : lk h.1 k = lk h.2 k
    · simp only [hs, if_true]
    · simp only [if_neg hs]
/-- The heap behind an effect. -/
noncomputable def effG (get : GetF) (e : Eff) : GetF := match e.hp with
  | some h => fun r => match r with | .l d n => get (.l d n) | .h k g => turnG h k g (get (.h k g))
  | none => e.wr.foldl wrG get

theorem get_wrs (st : St) (l : List Wr) : (st.wrs l).get = l.foldl wrG st.get := by
  induction l generalizing st with
  | nil => rfl
  | cons x r ih => simp only [St.wrs, List.foldl_cons] at ih ⊢; rw [ih, get_wr1]

theorem env_wrs (st : St) (l : List Wr) : (st.wrs l).env = st.env := by
  induction l generalizing st with
  | nil => rfl
  | cons x r ih =>
    simp only [St.wrs, List.foldl_cons] at ih ⊢
    rw [ih]
    obtain ⟨q, o⟩ := x
    cases q <;> cases o <;> rfl

theorem get_app (st : St) (e : Eff) : (st.app e).get = effG st.get e := by
  unfold St.app effG
  cases e.hp with
  | some h =>
    cases e.dst <;> (funext r; cases r <;> first | rfl | exact turnG_app h st.hp _ _)
  | none =>
    cases e.dst with
    | none => exact get_wrs st e.wr
    | some d => exact get_wrs st e.wr

theorem env_app (st : St) (e : Eff) (t : Nat) : lk (st.app e).env t = if e.dst = some t then some e.v else lk st.env t := by
  unfold St.app
  cases hd : e.dst with
  | none =>
    cases e.hp with
    | some h => simp
    | none => simp [env_wrs]
  | some d =>
    have : ∀ s : St, s.env = st.env → lk (up s.env d e.v) t = if some d = some t then some e.v else lk st.env t := by
      intro s hs
      rw [lk_up, hs]
      by_cases h : t = d
      · subst h; simp
      · have h2 : ¬ d = t := fun e => h e.symm
        simp [h, h2]
    cases e.hp with
    | some h => exact this st rfl
    | none => exact this (st.wrs e.wr) (env_wrs st e.wr)

theorem put_getD {a : Act} {dst : Option Tmp} {v : Value} {t : Nat} (h : ∀ d, dst = some d → d < a.tmps.size) : (a.put dst v).tmps.getD t undef = if dst = some t then v else a.tmps.getD t undef := by
  cases dst with
  | none => simp [Act.put]
  | some d =>
    have hd := h d rfl
    simp only [Act.put, Array.getD_eq_getD_getElem?]
    by_cases e : d = t
    · subst e; simp [hd]
    · rw [Array.getElem?_setIfInBounds_ne e]; simp [e]

/-- The frame's state behind an operation. -/
theorem SR.next {N : Nat} {I I' : Nat → Prop} {β β' : BMap} {st : St} {a : Act} {w w' : World} {e : Eff} {v : Value} (h : SR N I β st a w) (hd : ∀ d, e.dst = some d → d < N)
    (hv : RV I' w' β' v e.v) (hs : Sim I' β' (effG st.get e) w') (hst : Step I β st.get w I' β' (effG st.get e) w') : SR N I' β' (st.app e) (a.put e.dst v) w' := by
  refine ⟨fun t x hx => ?_, by rw [get_app]; exact hs, ?_, ?_⟩
  · rw [env_app] at hx
    rw [put_getD (fun d hd' => by rw [h.size]; exact hd d hd')]
    by_cases ht : e.dst = some t
    · rw [if_pos ht] at hx ⊢; cases hx; exact hv
    · rw [if_neg ht] at hx ⊢
      exact (h.env t x hx).step hst h.sim
  · cases e.dst <;> simp [Act.put, h.size]
  · cases e.dst <;> simp [Act.put, h.defers]

theorem Fr.none {β : BMap} {q : Ref} (h : Fr β q.num) : β q = Option.none := by
  cases q with
  | l d n => exact h.2 d
  | h k g => exact h.1 g

theorem hget_nil (r : Ref) (o : AO) : ¬ hget [] r = some o := by cases r <;> (intro h; cases h)

theorem own_nil (β : BMap) (b : Nat) : ¬ Own (hget []) β b := fun ⟨r, o, _, h, _⟩ => hget_nil r o h

/-- Nothing is held. -/
theorem Sim.nothing {I : Nat → Prop} {β : BMap} {w : World} (h : ∀ b, I b → b < w.heap.size) (hx : WX.X I w) : Sim I β (hget []) w :=
  ⟨fun r o hr => (hget_nil r o hr).elim, fun r _ o _ _ _ hr => (hget_nil r o hr).elim, fun b hb => ⟨h b hb, own_nil β b⟩, (fun _ _ _ hr => by cases hr), hx⟩

/-- A heap laid beside: the later of two of one number stands. -/
theorem get_beside (hp : Hp) (get : GetF) (r : Ref) : (hp.reverse.map (fun x => ((Ref.h x.1 x.2.1, some x.2.2) : Wr))).foldl wrG get r =
    match r with
    | .l _ _ => get r
    | .h k g => match lk hp k with
      | some (m, o) => if m = g then some o else none
      | none => get r := by
  induction hp with
  | nil => cases r <;> rfl
  | cons x hp ih =>
    obtain ⟨k0, g0, o0⟩ := x
    simp only [List.reverse_cons, List.map_append, List.map_cons, List.map_nil, List.foldl_append, List.foldl_cons, List.foldl_nil]
    unfold wrG
    cases r with
    | l d n => show (if (true, d) = (false, k0) then _ else _) = _; rw [if_neg (by simp)]; exact ih
    | h k g =>
      simp only [Ref.key, lk, Prod.mk.injEq, true_and]
      by_cases hk : k = k0
      · subst hk
        simp only [if_true]
        by_cases hg : g0 = g
        · subst hg; simp
        · have : ¬ Ref.h k g = Ref.h k g0 := by intro e; cases e; exact hg rfl
          simp [this, hg]
      · have : ¬ k0 = k := fun e => hk e.symm
        simp only [hk, this, if_false]
        exact ih

section
variable {C : Cfg}

/-- Functions told by a law of their own. -/
def IntrOk (C : Cfg) : Prop := ∀ f h args r, C.intr f = some h → h args = some r → (∃ fn c, C.P.funcs[f]? = some fn ∧ fn.body = some c) ∧
  ∀ I β w vals, (∀ b, I b → b < w.heap.size) → WX.X I w → Args I w β vals args → Calls C.P f vals w fun e w' => ∃ v, e = .returned v ∧ RV I w' β v r ∧ Keep (fun _ => False) w w'

/-- What a call in a region does. -/
theorem effG_heap (st : St) (hp : Hp) (dst : Option Nat) (r : AV) : effG st.get ⟨dst, r, [], some (st.hp, hp), none⟩ = fun q => match q with | .l d n => st.get (.l d n) | .h k g => lkg hp k g := by
  funext q
  cases q with
  | l d n => rfl
  | h k g =>
    have := turnG_app (st.hp, hp) st.hp k g
    simp only [if_true] at this
    exact this.symm
theorem goCallP_sound {p : Bool} {call : CallT} (hc : CallOk C.P call) (hi : IntrOk C) {st : St} {nx nx' : Nat} {dst : Option Nat} {f : FuncId} {args : List AV} {e : Eff} (h : goCallP C p call st nx dst f args = some (e, nx')) :
    nx ≤ nx' ∧ e.dst = dst ∧ (∃ fn c, C.P.funcs[f]? = some fn ∧ fn.body = some c) ∧
    ∀ I β w vals, Sim I β st.get w → FrIn β nx nx' → Args I w β vals args →
      Calls C.P f vals w fun en w' => ∃ v I' β', en = .returned v ∧ RV I' w' β' v e.v ∧ Sim I' β' (effG st.get e) w' ∧ Step I β st.get w I' β' (effG st.get e) w' ∧ Keeps (fun n => nx ≤ n ∧ n < nx') β β' := by
  unfold goCallP at h
  -- a world that grew alone
  have hgrow : ∀ {I : Nat → Prop} {β : BMap} {get : GetF} {w w' : World}, Sim I β get w → Keep (fun _ => False) w w' → Sim I β get w' ∧ Step I β get w I β get w' := by
    intro I β get w w' hs hk
    have hb : ∀ b, b < w.heap.size → w'.heap[b]? = w.heap[b]? := fun b hb => hk.block b hb id
    refine ⟨⟨fun r o hr => ?_, hs.inj, fun b hbI => ⟨Nat.lt_of_lt_of_le (hs.imm b hbI).1 hk.size, (hs.imm b hbI).2⟩, hs.gen, WX.stable (fun _ h => h) (fun b hbI => hb b (hs.imm b hbI).1) hs.wx⟩, ⟨fun _ h => h, fun _ _ h => h, ⟨hk.os, hk.tape, hk.output, hk.size, hk.csz, fun b hb' _ => hb b hb'⟩, fun _ h => .inl h, fun _ h => .inl h⟩⟩
    obtain ⟨p, hp, ho⟩ := hs.obj r o hr
    exact ⟨p, hp, ho.mono (hb _ ho.lt) (fun _ h => h) (fun b hbI => hb b (hs.imm b hbI).1) (fun _ _ h => h) hk.csz⟩
  split at h
  · rename_i spec hsp
    cases hr : spec args with
    | none => simp [hr] at h
    | some r =>
      simp [hr] at h
      obtain ⟨rfl, rfl⟩ := h
      obtain ⟨h1, h2⟩ := hi f spec args r hsp hr
      refine ⟨Nat.le_refl _, rfl, h1, fun I β w vals hs _ ha => (h2 I β w vals (fun b hb => (hs.imm b hb).1) hs.wx ha).mono fun en w' hp => ?_⟩
      obtain ⟨v, e1, e2, e3⟩ := hp
      obtain ⟨g1, g2⟩ := hgrow hs e3
      exact ⟨v, I, β, e1, e2, g1, g2, .refl _ _⟩
  · split at h
    · -- a pure function
      split at h
      · rename_i hrf
        split at h
        · rename_i r hp nx2 hcall
          cases hfz : frz (hget hp) frzDepth r with
          | none => simp [hfz] at h
          | some r' =>
            simp [hfz] at h
            obtain ⟨rfl, rfl⟩ := h
            obtain ⟨_, _, hfn, hcs⟩ := hc _ _ _ _ _ _ _ hcall
            refine ⟨Nat.le_refl _, rfl, hfn, fun I β w vals hs _ ha => ?_⟩
            -- the callee knows no object
            have hs0 : Sim I noB (hget []) w := .nothing (fun b hb => (hs.imm b hb).1) hs.wx
            have ha0 : Args I w noB vals args := ⟨ha.1, fun j v x hv hx => rf_RV (ha.2 j v x hv hx) ((List.all_eq_true.1 hrf) x (List.mem_of_getElem? hx))⟩
            refine (hcs I noB w vals hs0 (fun n _ _ => ⟨fun _ => rfl, fun _ => rfl⟩) ha0).mono fun en w' hpost => ?_
            obtain ⟨v, I', β', e1, e2, e3, e4, _⟩ := hpost
            -- what the caller holds lies elsewhere
            have hk : Keep (fun _ => False) w w' := ⟨e4.keep.os, e4.keep.tape, e4.keep.output, e4.keep.size, e4.keep.csz, fun b hb _ => e4.keep.block b hb (own_nil noB b)⟩
            have hno : ∀ b, ¬ Own (hget []) noB b := own_nil noB
            let J : Nat → Prop := fun b => I b ∨ (w.heap.size ≤ b ∧ b < w'.heap.size)
            obtain ⟨g1, g2⟩ := hgrow hs hk
            have hI'J : ∀ b, I' b → J b := fun b hb => by
              rcases e4.new b hb with h | h | h
              · exact .inl h
              · exact absurd h (hno b)
              · exact .inr ⟨h, (e3.imm b hb).1⟩
            have hOJ : ∀ b, Own (hget hp) β' b → J b := fun b hb => by
              rcases e4.own b hb with h | h
              · exact absurd h (hno b)
              · obtain ⟨rr, oo, pp, q1, q2, q3⟩ := hb
                obtain ⟨p2, q4, q5⟩ := e3.obj rr oo q1
                rw [q2] at q4; cases q4
                exact .inr ⟨h, by rw [← q3]; exact q5.lt⟩
            have hrv := frz_sound e3 hI'J hOJ e2 hfz
            have hJown : ∀ b, J b → ¬ Own st.get β b := fun b hb hown => by
              rcases hb with h | h
              · exact (hs.imm b h).2 hown
              · obtain ⟨rr, oo, pp, q1, q2, q3⟩ := hown
                obtain ⟨p2, q4, q5⟩ := hs.obj rr oo q1
                rw [q2] at q4; cases q4
                have := q5.lt; omega
            have hsJ : Sim J β st.get w' := by
              refine ⟨fun r o hr => ?_, g1.inj, fun b hb => ⟨?_, hJown b hb⟩, g1.gen, WX.stable (fun _ h => .inl h) (fun _ _ => rfl) g1.wx⟩
              · obtain ⟨p, hp', ho⟩ := g1.obj r o hr
                exact ⟨p, hp', ho.mono rfl (fun _ h => .inl h) (fun _ _ => rfl) (fun _ _ h => h) fun _ => Nat.le_refl _⟩
              · rcases hb with h | h
                · exact (g1.imm b h).1
                · exact h.2
            refine ⟨v, J, β, e1, hrv.mono (fun _ h => h) (fun _ _ => rfl) (fun _ _ h => by cases h) fun _ => Nat.le_refl _, hsJ, ⟨fun _ h => .inl h, fun _ _ h => h, g2.keep, g2.own, fun b hb => ?_⟩, .refl _ _⟩
            rcases hb with h | h
            · exact .inl h
            · exact .inr (.inr h.1)
        · cases h
      · split at h
        · rename_i args' hargs
          split at h
          · rename_i r hp nx2 hcall
            split at h
            · rename_i hfl
              simp only [Option.some.injEq, Prod.mk.injEq] at h
              obtain ⟨rfl, rfl⟩ := h
              obtain ⟨_, _, hfn, hcs⟩ := hc _ _ _ _ _ _ _ hcall
              refine ⟨Nat.le_refl _, rfl, hfn, fun I β w vals hs _ ha => ?_⟩
              have hs0 : Sim (AllB w) noB (hget []) w := .nothing (fun b hb => hb) (WX.stable (fun b hb => (hs.imm b hb).1) (fun _ _ => rfl) hs.wx)
              obtain ⟨m1, m2⟩ := mapO_spec hargs
              have hIA : ∀ b, I b → AllB w b := fun b hb => (hs.imm b hb).1
              have hOA : ∀ b, Own st.get β b → AllB w b := fun b ⟨rr, oo, pp, q1, q2, q3⟩ => by
                obtain ⟨p2, q4, q5⟩ := hs.obj rr oo q1
                rw [q2] at q4; cases q4
                show b < _; rw [← q3]; exact q5.lt
              have ha0 : Args (AllB w) w noB vals args' := ⟨by rw [ha.1, m1], fun j v x hv hx => by
                have hj : j < args.length := by rw [← m1]; exact (List.getElem?_eq_some_iff.1 hx).1
                exact frz_sound hs hIA hOA (ha.2 j v _ hv (List.getElem?_eq_getElem hj)) (m2 j _ x (List.getElem?_eq_getElem hj) hx)⟩
              refine (hcs (AllB w) noB w vals hs0 (fun n _ _ => ⟨fun _ => rfl, fun _ => rfl⟩) ha0).mono fun en w' hpost => ?_
              obtain ⟨v, I', β', e1, e2, e3, e4, _⟩ := hpost
              have hk : Keep (fun _ => False) w w' := ⟨e4.keep.os, e4.keep.tape, e4.keep.output, e4.keep.size, e4.keep.csz, fun b hb _ => e4.keep.block b hb (own_nil noB b)⟩
              obtain ⟨g1, g2⟩ := hgrow hs hk
              exact ⟨v, I, β, e1, fl_RV e2 hfl, g1, g2, .refl _ _⟩
            · cases h
          · cases h
        · cases h
    · split at h
      · -- its arguments lead to no object: a heap of its own, laid beside
        rename_i hrf
        split at h
        · rename_i r hp nx2 hcall
          simp only [Option.some.injEq, Prod.mk.injEq] at h
          obtain ⟨rfl, rfl⟩ := h
          obtain ⟨hle, hnum, hfn, hcs⟩ := hc _ _ _ _ _ _ _ hcall
          refine ⟨hle, rfl, hfn, fun I β w vals hs hfr ha => ?_⟩
          have ha0 : Args I w noB vals args := ⟨ha.1, fun j v x hv hx => rf_RV (ha.2 j v x hv hx) ((List.all_eq_true.1 hrf) x (List.mem_of_getElem? hx))⟩
          refine (hcs I noB w vals (.nothing (fun b hb => (hs.imm b hb).1) hs.wx) (fun n _ _ => ⟨fun _ => rfl, fun _ => rfl⟩) ha0).mono fun en w' hpost => ?_
          obtain ⟨v, I', βc, e1, e2c, e3c, e4c, e5c⟩ := hpost
          -- the callee's names beside the caller's
          have hrange : ∀ q p, βc q = some p → nx ≤ q.num ∧ q.num < nx2 := fun q p hq => by
            by_cases hh : nx ≤ q.num ∧ q.num < nx2
            · exact hh
            · have := (e5c q.num ⟨fun _ => rfl, fun _ => rfl⟩ hh).none
              rw [this] at hq; cases hq
          let β' : BMap := fun q => match βc q with | some p => some p | none => β q
          have hb1 : ∀ q p, βc q = some p → β' q = some p := fun q p hq => by simp only [β', hq]
          have hb2 : ∀ q p, β q = some p → β' q = some p := fun q p hq => by
            cases hc : βc q with
            | none => simp only [β', hc]; exact hq
            | some p2 =>
              obtain ⟨h1, h2⟩ := hrange q p2 hc
              have := (hfr q.num h1 h2).none
              rw [this] at hq; cases hq
          have e2 : RV I' w' β' v r := e2c.mono (fun _ h => h) (fun _ _ => rfl) hb1 fun _ => Nat.le_refl _
          have hown : ∀ b, Own (hget hp) β' b → Own (hget hp) βc b := fun b ⟨q, o, p, q1, q2, q3⟩ => by
            obtain ⟨p2, f1, _⟩ := e3c.obj q o q1
            rw [hb1 q p2 f1] at q2; cases q2
            exact ⟨q, o, p, q1, f1, q3⟩
          have e3 : Sim I' β' (hget hp) w' := by
            refine ⟨fun q o hq => ?_, fun q q' o o' p p' h1 h2 h3 h4 he => ?_, fun b hb => ⟨(e3c.imm b hb).1, fun h => (e3c.imm b hb).2 (hown b h)⟩, fun k g o hk g' hg' => ?_, e3c.wx⟩
            · obtain ⟨p, f1, f2⟩ := e3c.obj q o hq
              exact ⟨p, hb1 q p f1, f2.mono rfl (fun _ h => h) (fun _ _ => rfl) hb1 fun _ => Nat.le_refl _⟩
            · obtain ⟨p2, f1, _⟩ := e3c.obj q o h1
              obtain ⟨p3, f2, _⟩ := e3c.obj q' o' h2
              rw [hb1 q p2 f1] at h3; cases h3
              rw [hb1 q' p3 f2] at h4; cases h4
              exact e3c.inj q q' o o' p p' h1 h2 f1 f2 he
            · have f1 := e3c.gen k g o hk g' hg'
              obtain ⟨p2, f2, _⟩ := e3c.obj _ o hk
              obtain ⟨r1, r2⟩ := hrange _ p2 f2
              have f3 := (hfr k r1 r2).1 g'
              simp only [β', f1, f3]
          have e4 : Step I β (hget []) w I' β' (hget hp) w' :=
            ⟨e4c.hI, hb2, ⟨e4c.keep.os, e4c.keep.tape, e4c.keep.output, e4c.keep.size, e4c.keep.csz, fun b hb _ => e4c.keep.block b hb (own_nil noB b)⟩,
              fun b hb => (e4c.own b (hown b hb)).elim (fun h => (own_nil noB b h).elim) .inr,
              fun b hb => (e4c.new b hb).elim .inl fun h => h.elim (fun h => (own_nil noB b h).elim) fun h => .inr (.inr h)⟩
          have e5 : Keeps (fun n => nx ≤ n ∧ n < nx2) β β' := fun n hn hno => by
            have := e5c n ⟨fun _ => rfl, fun _ => rfl⟩ hno
            exact ⟨fun g => by simp only [β', this.1 g, hn.1 g], fun d => by simp only [β', this.2 d, hn.2 d]⟩
          have hG : effG st.get ⟨dst, r, hp.reverse.map (fun x => (.h x.1 x.2.1, some x.2.2)), none, some []⟩ = fun q => match q with
              | .l _ _ => st.get q
              | .h k g => match lk hp k with
                | some (m, o) => if m = g then some o else none
                | none => st.get q := by
            funext q; exact get_beside hp st.get q
          rw [hG]
          have hkey : ∀ k m o, lk hp k = some (m, o) → nx ≤ k ∧ k < nx2 := fun k m o hk => by
            rcases hnum k m o (by simp [lkg, hk]) with ⟨g', o', h⟩ | h
            · cases h
            · exact h
          obtain ⟨c1, c2⟩ := combine (G := fun q => match q with
              | .l _ _ => st.get q
              | .h k g => match lk hp k with
                | some (m, o) => if m = g then some o else none
                | none => st.get q) hs (fun r o hr => (hget_nil r o hr).elim) e3 e4 (fun q o hq => by
            cases q with
            | l d n => exact .inr ⟨hq, rfl⟩
            | h k g =>
              simp only at hq
              cases hk : lk hp k with
              | none => simp only [hk] at hq; exact .inr ⟨hq, rfl⟩
              | some mo =>
                obtain ⟨m, o2⟩ := mo
                simp only [hk] at hq
                exact .inl (by simp only [hget, lkg, hk]; exact hq)) (fun k g o hq hn g' hg' => by
            simp only at hq
            cases hk : lk hp k with
            | some mo =>
              obtain ⟨m, o2⟩ := mo
              simp only [hk] at hq
              simp only [hget, lkg, hk] at hn
              rw [hn] at hq; cases hq
            | none =>
              simp only [hk] at hq
              have hb : β (.h k g') = none := hs.gen k g o hq g' hg'
              have hcn : βc (.h k g') = none := by
                cases hcc : βc (.h k g') with
                | none => rfl
                | some p2 =>
                  obtain ⟨r1, r2⟩ := hrange _ p2 hcc
                  obtain ⟨p, hp1, _⟩ := hs.obj _ _ hq
                  have := (hfr k r1 r2).1 g
                  rw [this] at hp1; cases hp1
              simp only [β', hcn, hb])
          exact ⟨v, I', β', e1, e2, c1, c2, e5⟩
        · cases h
      · split at h
        · split at h
          · rename_i r hp nx2 hcall
            simp only [Option.some.injEq, Prod.mk.injEq] at h
            obtain ⟨rfl, rfl⟩ := h
            obtain ⟨hle, hnum, hfn, hcs⟩ := hc _ _ _ _ _ _ _ hcall
            refine ⟨hle, rfl, hfn, fun I β w vals hs hfr ha => ?_⟩
            have hsub : ∀ r o, hget st.hp r = some o → st.get r = some o := fun r o hr => by
              cases r with
              | l d n => cases hr
              | h k g => exact hr
            refine (hcs I β w vals (hs.sub hsub) hfr ha).mono fun en w' hpost => ?_
            obtain ⟨v, I', β', e1, e2, e3, e4, e5⟩ := hpost
            rw [effG_heap]
            obtain ⟨c1, c2⟩ := combine (G := fun q => match q with | .l d n => st.get (.l d n) | .h k g => lkg hp k g) hs hsub e3 e4 (fun q o hq => by
              cases q with
              | l d n => exact .inr ⟨hq, rfl⟩
              | h k g => exact .inl hq) (fun k g o hq hn => by
                have hn' : lkg hp k g = none := hn
                have hq' : lkg hp k g = some o := hq
                rw [hn'] at hq'; cases hq')
            exact ⟨v, I', β', e1, e2, c1, c2, e5⟩
          · cases h
        · cases h

theorem nov1_RV {I I' : Nat → Prop} {w : World} {β : BMap} {v : Value} {x : AV} (h : RV I w β v x) (hx : nov1 x = true) : RV I' w β v x := by
  cases h with
  | undef => cases hx
  | b => exact .b _ _
  | i => exact .i _ _ _
  | s => exact .s _ _
  | np => exact .np _
  | nfn => exact .nfn _
  | mpn => exact .mpn _
  | agg => cases hx
  | tup => cases hx
  | vsn => exact .vsn _ _
  | vs0 => exact .vs0 _ _ _ _
  | vs _ b o len cap sz rows f hb hr hlen hcap hc h =>
    have : rows = [] := by simpa [nov1] using hx
    subst this
    cases hlen
    exact .vs0 _ _ _ _
  | rs _ k g i0 len sz b o cap a hb hcap hsz ha => exact .rs _ k g i0 len sz b o cap a hb hcap hsz ha
  | ptr _ k g p b o hb => exact .ptr _ k g p b o hb
  | pe _ k g i p sz b o hb => exact .pe _ k g i p sz b o hb
  | lp => cases hx
  | vp => cases hx
  | fn _ f vs cs hl h =>
    have : cs = [] := by simpa [nov1] using hx
    subst this
    exact .fn _ f vs [] hl fun j v c hv hc => by simp at hc
  | mp _ k r o hb => exact .mp _ k r o hb

theorem nov_RV {I I' : Nat → Prop} {w : World} {β : BMap} {v : Value} {x : AV} (h : RV I w β v x) (hx : nov x = true) : RV I' w β v x := by
  cases h with
  | agg _ vs cs hl hc h =>
    have hx' := List.all_eq_true.1 (show cs.all nov1 = true from hx)
    exact .agg _ vs cs hl hc fun j v c hv hcc => nov1_RV (h j v c hv hcc) (hx' c (List.mem_of_getElem? hcc))
  | tup _ vs cs hl h =>
    have hx' := List.all_eq_true.1 (show cs.all nov1 = true from hx)
    exact .tup _ vs cs hl fun j v c hv hcc => nov1_RV (h j v c hv hcc) (hx' c (List.mem_of_getElem? hcc))
  | undef => cases hx
  | b => exact .b _ _
  | i => exact .i _ _ _
  | s => exact .s _ _
  | np => exact .np _
  | nfn => exact .nfn _
  | mpn => exact .mpn _
  | vsn => exact .vsn _ _
  | vs0 => exact .vs0 _ _ _ _
  | vs _ b o len cap sz rows f hb hr hlen hcap hc h => exact nov1_RV (.vs _ b o len cap sz rows f hb hr hlen hcap hc h) hx
  | rs _ k g i0 len sz b o cap a hb hcap hsz ha => exact .rs _ k g i0 len sz b o cap a hb hcap hsz ha
  | ptr _ k g p b o hb => exact .ptr _ k g p b o hb
  | pe _ k g i p sz b o hb => exact .pe _ k g i p sz b o hb
  | lp => cases hx
  | vp => cases hx
  | fn _ f vs cs hl h => exact nov1_RV (.fn _ f vs cs hl h) hx
  | mp _ k r o hb => exact .mp _ k r o hb

theorem novO_OR {I I' : Nat → Prop} {w : World} {β : BMap} {p : Blk} {o : AO} (h : OR I w β p o) (ho : novO o = true) : OR I' w β p o := by
  cases o with
  | cells cs =>
    have hx' := List.all_eq_true.1 (show cs.all nov1 = true from ho)
    obtain ⟨c, e, fr, h1, h2, h3, h4⟩ := h
    exact ⟨c, e, fr, h1, h2, h3, fun j x hx => let ⟨v, a, b, r⟩ := h4 j x hx; ⟨v, a, b, nov1_RV r (hx' x (List.mem_of_getElem? hx))⟩⟩
  | arr sz rows =>
    have hx' := List.all_eq_true.1 (show rows.all (·.all nov1) = true from ho)
    obtain ⟨h0, h0', c, e, fr, h1, h2, h3, h4⟩ := h
    exact ⟨h0, h0', c, e, fr, h1, h2, h3, fun i j r x hr hx => let ⟨v, a, b, q⟩ := h4 i j r x hr hx
      ⟨v, a, b, nov1_RV q (List.all_eq_true.1 (hx' r (List.mem_of_getElem? hr)) x (List.mem_of_getElem? hx))⟩⟩
  | mp es =>
    have hx' := List.all_eq_true.1 (show es.all (fun e => nov1 e.1 && nov1 e.2) = true from ho)
    obtain ⟨mes, clock, h1, h2, hst, h3⟩ := h
    exact ⟨mes, clock, h1, h2, hst, fun j m e hm he => by
      have := hx' e (List.mem_of_getElem? he)
      simp only [Bool.and_eq_true] at this
      exact ⟨nov1_RV (h3 j m e hm he).1 this.1, nov1_RV (h3 j m e hm he).2 this.2⟩⟩
  | sit s pos => exact h

theorem lk_mem {α : Type} {l : List (Nat × α)} {k : Nat} {x : α} (h : lk l k = some x) : (k, x) ∈ l := by
  induction l with
  | nil => cases h
  | cons y r ih =>
    obtain ⟨j, z⟩ := y
    simp only [lk] at h
    by_cases hj : j = k
    · rw [if_pos hj] at h; cases h; subst hj; exact List.mem_cons_self ..
    · rw [if_neg hj] at h; exact List.mem_cons_of_mem _ (ih h)

set_option maxHeartbeats 1000000 in
theorem goCallF_sound {call : CallT} (hc : CallOk C.P call) {st : St} {nx nx' : Nat} {dst : Option Nat} {f : FuncId} {args : List AV} {e : Eff} (h : goCallF call st nx dst f args = some (e, nx')) :
    nx ≤ nx' ∧ e.dst = dst ∧ (∃ fn c, C.P.funcs[f]? = some fn ∧ fn.body = some c) ∧
    ∀ I β w vals, Sim I β st.get w → FrIn β nx nx' → Args I w β vals args →
      Calls C.P f vals w fun en w' => ∃ v I' β', en = .returned v ∧ RV I' w' β' v e.v ∧ Sim I' β' (effG st.get e) w' ∧ Step I β st.get w I' β' (effG st.get e) w' ∧ Keeps (fun n => nx ≤ n ∧ n < nx') β β' := by
  unfold goCallF at h
  split at h
  · rename_i args' hargs
    split at h
    · rename_i r hp nx2 hcall
      split at h
      · rename_i hnov
        simp only [Bool.and_eq_true] at hnov
        obtain ⟨hnr, hnh⟩ := hnov
        simp only [Option.some.injEq, Prod.mk.injEq] at h
        obtain ⟨rfl, rfl⟩ := h
        obtain ⟨hle, hnum, hfn, hcs⟩ := hc _ _ _ _ _ _ _ hcall
        refine ⟨hle, rfl, hfn, fun I β w vals hs hfr ha => ?_⟩
        have hs0 : Sim (AllB w) noB (hget []) w := .nothing (fun b hb => hb) (WX.stable (fun b hb => (hs.imm b hb).1) (fun _ _ => rfl) hs.wx)
        obtain ⟨m1, m2⟩ := mapO_spec hargs
        have hIA : ∀ b, I b → AllB w b := fun b hb => (hs.imm b hb).1
        have hOA : ∀ b, Own st.get β b → AllB w b := fun b ⟨rr, oo, pp, q1, q2, q3⟩ => by
          obtain ⟨p2, q4, q5⟩ := hs.obj rr oo q1
          rw [q2] at q4; cases q4
          show b < _; rw [← q3]; exact q5.lt
        have ha0 : Args (AllB w) w noB vals args' := ⟨by rw [ha.1, m1], fun j v x hv hx => by
          have hj : j < args.length := by rw [← m1]; exact (List.getElem?_eq_some_iff.1 hx).1
          exact frz_sound hs hIA hOA (ha.2 j v _ hv (List.getElem?_eq_getElem hj)) (m2 j _ x (List.getElem?_eq_getElem hj) hx)⟩
        refine (hcs (AllB w) noB w vals hs0 (fun n _ _ => ⟨fun _ => rfl, fun _ => rfl⟩) ha0).mono fun en w' hpost => ?_
        obtain ⟨v, I', βc, e1, e2c, e3c, e4c, e5c⟩ := hpost
        have hrange : ∀ q p, βc q = some p → nx ≤ q.num ∧ q.num < nx2 := fun q p hq => by
          by_cases hh : nx ≤ q.num ∧ q.num < nx2
          · exact hh
          · have := (e5c q.num ⟨fun _ => rfl, fun _ => rfl⟩ hh).none
            rw [this] at hq; cases hq
        let β' : BMap := fun q => match βc q with | some p => some p | none => β q
        have hb1 : ∀ q p, βc q = some p → β' q = some p := fun q p hq => by simp only [β', hq]
        have hb2 : ∀ q p, β q = some p → β' q = some p := fun q p hq => by
          cases hc : βc q with
          | none => simp only [β', hc]; exact hq
          | some p2 =>
            obtain ⟨h1, h2⟩ := hrange q p2 hc
            have := (hfr q.num h1 h2).none
            rw [this] at hq; cases hq
        have e2 : RV I w' β' v r := nov_RV (e2c.mono (fun _ h => h) (fun _ _ => rfl) hb1 fun _ => Nat.le_refl _) hnr
        have hown : ∀ b, Own (hget hp) β' b → Own (hget hp) βc b := fun b ⟨q, o, p, q1, q2, q3⟩ => by
          obtain ⟨p2, f1, _⟩ := e3c.obj q o q1
          rw [hb1 q p2 f1] at q2; cases q2
          exact ⟨q, o, p, q1, f1, q3⟩
        have hownNew : ∀ b, Own (hget hp) β' b → w.heap.size ≤ b := fun b hb => (e4c.own b (hown b hb)).elim (fun h => (own_nil noB b h).elim) id
        have hblk : ∀ b, b < w.heap.size → w'.heap[b]? = w.heap[b]? := fun b hb => e4c.keep.block b hb (own_nil noB b)
        have hnO : ∀ q o, hget hp q = some o → novO o = true := fun q o hq => by
          cases q with
          | l d n => cases hq
          | h k g =>
            simp only [hget, lkg] at hq
            split at hq
            · rename_i m o2 hl
              split at hq
              · cases hq
                exact (List.all_eq_true.1 hnh) _ (lk_mem hl)
              · cases hq
            · cases hq
        have e3 : Sim I β' (hget hp) w' := by
          refine ⟨fun q o hq => ?_, fun q q' o o' p p' h1 h2 h3 h4 he => ?_, fun b hb => ⟨Nat.lt_of_lt_of_le (hs.imm b hb).1 e4c.keep.size, fun h => ?_⟩, fun k g o hk g' hg' => ?_, WX.stable (fun _ h => h) (fun b hb => hblk b (hs.imm b hb).1) hs.wx⟩
          · obtain ⟨p, f1, f2⟩ := e3c.obj q o hq
            exact ⟨p, hb1 q p f1, novO_OR (f2.mono rfl (fun _ h => h) (fun _ _ => rfl) hb1 fun _ => Nat.le_refl _) (hnO q o hq)⟩
          · obtain ⟨p2, f1, _⟩ := e3c.obj q o h1
            obtain ⟨p3, f2, _⟩ := e3c.obj q' o' h2
            rw [hb1 q p2 f1] at h3; cases h3
            rw [hb1 q' p3 f2] at h4; cases h4
            exact e3c.inj q q' o o' p p' h1 h2 f1 f2 he
          · have h1 := hownNew b h
            have h2 := (hs.imm b hb).1
            omega
          · have f1 := e3c.gen k g o hk g' hg'
            obtain ⟨p2, f2, _⟩ := e3c.obj _ o hk
            obtain ⟨r1, r2⟩ := hrange _ p2 f2
            have f3 := (hfr k r1 r2).1 g'
            simp only [β', f1, f3]
        have e4 : Step I β (hget []) w I β' (hget hp) w' :=
          ⟨fun _ h => h, hb2, ⟨e4c.keep.os, e4c.keep.tape, e4c.keep.output, e4c.keep.size, e4c.keep.csz, fun b hb _ => e4c.keep.block b hb (own_nil noB b)⟩,
            fun b hb => .inr (hownNew b hb), fun b hb => .inl hb⟩
        have e5 : Keeps (fun n => nx ≤ n ∧ n < nx2) β β' := fun n hn hno => by
          have := e5c n ⟨fun _ => rfl, fun _ => rfl⟩ hno
          exact ⟨fun g => by simp only [β', this.1 g, hn.1 g], fun d => by simp only [β', this.2 d, hn.2 d]⟩
        have hG : effG st.get ⟨dst, r, hp.reverse.map (fun x => (.h x.1 x.2.1, some x.2.2)), none, none⟩ = fun q => match q with
            | .l _ _ => st.get q
            | .h k g => match lk hp k with
              | some (m, o) => if m = g then some o else none
              | none => st.get q := by
          funext q; exact get_beside hp st.get q
        rw [hG]
        obtain ⟨c1, c2⟩ := combine (G := fun q => match q with
            | .l _ _ => st.get q
            | .h k g => match lk hp k with
              | some (m, o) => if m = g then some o else none
              | none => st.get q) hs (fun r o hr => (hget_nil r o hr).elim) e3 e4 (fun q o hq => by
          cases q with
          | l d n => exact .inr ⟨hq, rfl⟩
          | h k g =>
            simp only at hq
            cases hk : lk hp k with
            | none => simp only [hk] at hq; exact .inr ⟨hq, rfl⟩
            | some mo =>
              obtain ⟨m, o2⟩ := mo
              simp only [hk] at hq
              exact .inl (by simp only [hget, lkg, hk]; exact hq)) (fun k g o hq hn g' hg' => by
          simp only at hq
          cases hk : lk hp k with
          | some mo =>
            obtain ⟨m, o2⟩ := mo
            simp only [hk] at hq
            simp only [hget, lkg, hk] at hn
            rw [hn] at hq; cases hq
          | none =>
            simp only [hk] at hq
            have hb : β (.h k g') = none := hs.gen k g o hq g' hg'
            have hcn : βc (.h k g') = none := by
              cases hcc : βc (.h k g') with
              | none => rfl
              | some p2 =>
                obtain ⟨r1, r2⟩ := hrange _ p2 hcc
                obtain ⟨p, hp1, _⟩ := hs.obj _ _ hq
                have := (hfr k r1 r2).1 g
                rw [this] at hp1; cases hp1
            simp only [β', hcn, hb])
        exact ⟨v, I, β', e1, e2, c1, c2, e5⟩
      · cases h
    · cases h
  · cases h

theorem goCallH_sound {call : CallT} (hc : CallOk C.P call) {st : St} {nx nx' : Nat} {dst : Option Nat} {f : FuncId} {args : List AV} {e : Eff} (h : goCallH call st nx dst f args = some (e, nx')) :
    nx ≤ nx' ∧ e.dst = dst ∧ (∃ fn c, C.P.funcs[f]? = some fn ∧ fn.body = some c) ∧
    ∀ I β w vals, Sim I β st.get w → FrIn β nx nx' → Args I w β vals args →
      Calls C.P f vals w fun en w' => ∃ v I' β', en = .returned v ∧ RV I' w' β' v e.v ∧ Sim I' β' (effG st.get e) w' ∧ Step I β st.get w I' β' (effG st.get e) w' ∧ Keeps (fun n => nx ≤ n ∧ n < nx') β β' := by
  unfold goCallH at h
  split at h
  · split at h
    · rename_i r hp nx2 hcall
      simp only [Option.some.injEq, Prod.mk.injEq] at h
      obtain ⟨rfl, rfl⟩ := h
      obtain ⟨hle, hnum, hfn, hcs⟩ := hc _ _ _ _ _ _ _ hcall
      refine ⟨hle, rfl, hfn, fun I β w vals hs hfr ha => ?_⟩
      have hsub : ∀ r o, hget st.hp r = some o → st.get r = some o := fun r o hr => by
        cases r with
        | l d n => cases hr
        | h k g => exact hr
      refine (hcs I β w vals (hs.sub hsub) hfr ha).mono fun en w' hpost => ?_
      obtain ⟨v, I', β', e1, e2, e3, e4, e5⟩ := hpost
      rw [effG_heap]
      obtain ⟨c1, c2⟩ := combine (G := fun q => match q with | .l d n => st.get (.l d n) | .h k g => lkg hp k g) hs hsub e3 e4 (fun q o hq => by
        cases q with
        | l d n => exact .inr ⟨hq, rfl⟩
        | h k g => exact .inl hq) (fun k g o hq hn => by
          have hn' : lkg hp k g = none := hn
          have hq' : lkg hp k g = some o := hq
          rw [hn'] at hq'; cases hq')
      exact ⟨v, I', β', e1, e2, c1, c2, e5⟩
    · cases h
  · cases h

theorem goCallR_eq {call : CallT} {st : St} {nx nx' : Nat} {dst : Option Nat} {f : FuncId} {args : List AV} {e : Eff} (h : goCallR call st nx dst f args = some (e, nx')) :
    ∃ r, e = ⟨dst, r, [], none, none⟩ ∧ ¬ args.all rf = true ∧ args.all AV.mv = true ∧ call f args st.hp nx = some (r, st.hp, nx') := by
  unfold goCallR at h
  split at h
  · cases h
  · rename_i h1
    split at h
    · rename_i h2
      split at h
      · rename_i r hp nx2 hcall
        split at h
        · rename_i heq
          cases h
          subst heq
          exact ⟨r, rfl, h1, h2, hcall⟩
        · cases h
      · cases h
    · cases h

/-- Where a call comes from. -/
theorem goCall_from {call : CallT} {st : St} {nx nx' : Nat} {dst : Option Nat} {f : FuncId} {args : List AV} {e : Eff} (h : goCall C call st nx dst f args = some (e, nx')) : (∃ p, goCallP C p call st nx dst f args = some (e, nx')) ∨ goCallF call st nx dst f args = some (e, nx') ∨ (C.intr f = none ∧ goCallR call st nx dst f args = some (e, nx')) ∨ (C.intr f = none ∧ goCallH call st nx dst f args = some (e, nx')) := by
  unfold goCall at h
  split at h
  · rename_i hr
    simp only [Bool.and_eq_true, Option.isNone_iff_eq_none] at hr
    exact .inr (.inr (.inr ⟨hr.2, h⟩))
  split at h
  · split at h
    · rename_i x hx
      cases h
      exact .inr (.inl hx)
    · exact .inl ⟨_, h⟩
  split at h
  · rename_i hr
    split at h
    · rename_i x hx
      cases h
      simp only [Bool.and_eq_true, Option.isNone_iff_eq_none] at hr
      exact .inr (.inr (.inl ⟨hr.2, hx⟩))
    · exact .inl ⟨_, h⟩
  · split at h
    · rename_i x hx
      cases h
      exact .inl ⟨_, hx⟩
    · split at h
      · exact .inl ⟨_, h⟩
      · cases h

theorem goCall_sound {call : CallT} (hc : CallOk C.P call) (hi : IntrOk C) {st : St} {nx nx' : Nat} {dst : Option Nat} {f : FuncId} {args : List AV} {e : Eff} (h : goCall C call st nx dst f args = some (e, nx')) :
    nx ≤ nx' ∧ e.dst = dst ∧ (∃ fn c, C.P.funcs[f]? = some fn ∧ fn.body = some c) ∧
    ∀ I β w vals, Sim I β st.get w → FrIn β nx nx' → Args I w β vals args →
      Calls C.P f vals w fun en w' => ∃ v I' β', en = .returned v ∧ RV I' w' β' v e.v ∧ Sim I' β' (effG st.get e) w' ∧ Step I β st.get w I' β' (effG st.get e) w' ∧ Keeps (fun n => nx ≤ n ∧ n < nx') β β' := by
  rcases goCall_from h with ⟨p, hp⟩ | hp | ⟨hn, hp⟩ | ⟨hn, hp⟩
  · exact goCallP_sound hc hi hp
  · exact goCallF_sound hc hp
  rotate_left
  · exact goCallH_sound hc hp
  · obtain ⟨r, q1, q2, q3, q4⟩ := goCallR_eq hp
    subst q1
    have h2 : goCallP C false call st nx dst f args = some (⟨dst, r, [], some (st.hp, st.hp), none⟩, nx') := by
      unfold goCallP
      rw [hn]
      simp only [Bool.false_eq_true, if_false, if_neg q2, if_pos q3, q4]
    obtain ⟨a1, a2, a3, a4⟩ := goCallP_sound hc hi h2
    refine ⟨a1, rfl, a3, fun I β w vals hs hfr ha => (a4 I β w vals hs hfr ha).mono fun en w' hp => ?_⟩
    have hG : effG st.get ⟨dst, r, [], some (st.hp, st.hp), none⟩ = effG st.get ⟨dst, r, [], none, none⟩ := by
      rw [effG_heap]
      funext q
      cases q <;> rfl
    rw [hG] at hp
    exact hp

end
end Ab
end Go.Proofs.YtidoflgcblglbaaDoor

/-
  DERIVED. ONE OPERATION OF A REGION, GUARD AND ALL.
  Conditions: none of a program's.
-/
namespace Go.Proofs.YtidoflgcblglbaaDoor
namespace Ab
variable [WX]

section
variable {C : Cfg}

theorem yielded_of {ops : Array Oper} {tm : Array Value} {j t : Nat} {I : Nat → Prop} {w : World} {β : BMap} {x : AV} (ht : (ops[j]?).bind (·.dst) = some t) (hx : RV I w β (tm.getD t undef) x) :
    (∀ c, x = .b c → yielded ops tm j = some c) ∧ (x = .tup [] → yielded ops tm j = none) := by
  unfold yielded
  simp only [ht, Option.bind_some]
  constructor
  · intro c hc
    subst hc
    generalize hv : tm.getD t undef = v at hx
    cases hx
    rw [Array.getD_eq_getD_getElem?] at hv
    cases hg : tm[t]? with
    | none => rw [hg] at hv; simp [undef] at hv
    | some y => rw [hg] at hv; simp at hv; subst hv; rfl
  · intro hc
    subst hc
    generalize hv : tm.getD t undef = v at hx
    cases hx with
    | tup _ vs _ hl _ =>
      rw [Array.getD_eq_getD_getElem?] at hv
      cases hg : tm[t]? with
      | none => rfl
      | some y => rw [hg] at hv; simp at hv; subst hv; rfl

theorem guardA_sound {N : Nat} {ops : Array Oper} {I : Nat → Prop} {β : BMap} {st : St} {a : Act} {w : World} {o : Oper} {b : Bool} (h : SR N I β st a w) (hg : guardA ops st.env o = some b) : Region.wanted o (yielded ops a.tmps) = b := by
  unfold guardA at hg
  unfold Region.wanted
  split at hg
  · rename_i hgu; cases hg; simp [hgu]
  · rename_i j want hgu
    simp only [hgu]
    split at hg
    · cases hg
    · rename_i t ht
      split at hg
      · rename_i c hl
        cases hg
        have := (yielded_of ht (h.env t _ hl)).1 c rfl
        rw [this]; simp
      · rename_i hl
        cases hg
        have := (yielded_of ht (h.env t _ hl)).2 rfl
        rw [this]; rfl
      · cases hg

/-- What an operation does to the state. -/
def After (C : Cfg) (N : Nat) (ops : Array Oper) (o : Oper) (e : Eff) (num : Nat → Prop) (st : St) : Prop :=
  ∀ I β a w (Q : Exit → Act → World → Prop) (K : Act → World → Prop), SR N I β st a w → (∀ n, num n → Fr β n) →
    (∀ a' w' I' β', SR N I' β' (st.app e) a' w' → Step I β st.get w I' β' (st.app e).get w' → Keeps num β β' → K a' w') →
    (if Region.wanted o (yielded ops a.tmps) = true then o.wp C.P a w K Q else K (a.put o.dst undef) w)

theorem opA_sound {call : CallT} {N : Nat} (hc : CallOk C.P call) (hi : IntrOk C) (hname : ∀ (f : FuncId) (fn : Func), C.P.funcs[f]? = some fn → (fn.name == "runtime.NumGoroutine") = false) {f : FuncId} {ops : Array Oper} {base nx i nx' : Nat} {st : St} {o : Oper} {e : Eff}
    (h : opA C call f ops base st nx i o = some (e, nx')) (hd : ∀ d, o.dst = some d → d < N) :
    nx ≤ nx' ∧ e.dst = o.dst ∧ After C N ops o e (fun n => n = base + i ∨ (nx ≤ n ∧ n < nx')) st := by
  unfold opA at h
  split at h
  · cases h
  · rename_i hg
    simp only [Option.some.injEq, Prod.mk.injEq] at h
    obtain ⟨rfl, rfl⟩ := h
    refine ⟨Nat.le_refl _, rfl, fun I β a w Q K hs _ hK => ?_⟩
    rw [guardA_sound hs hg]
    simp only [Bool.false_eq_true, if_false]
    refine hK _ w I β (hs.next (e := ⟨o.dst, .tup [], [], none, some []⟩) hd (.tup _ #[] [] rfl (by simp)) hs.sim (.refl _ _ _ _)) ?_ (.refl _ _)
    rw [get_app]; exact .refl _ _ _ _
  · rename_i hg
    have plain : ∀ {e : Eff} {nx' : Nat}, (stepA C.P st.get (Ab.ev st.env) (base + i) (C.loc f) o).map (fun r => ((⟨o.dst, r.1, r.2, none, some (rdA (Ab.ev st.env) o)⟩ : Eff), nx)) = some (e, nx') →
        nx ≤ nx' ∧ e.dst = o.dst ∧ After C N ops o e (fun n => n = base + i ∨ (nx ≤ n ∧ n < nx')) st := by
      intro e nx' h
      cases hst : stepA C.P st.get (Ab.ev st.env) (base + i) (C.loc f) o with
      | none => simp [hst] at h
      | some x =>
        obtain ⟨r, wr⟩ := x
        simp [hst] at h
        obtain ⟨rfl, rfl⟩ := h
        refine ⟨Nat.le_refl _, rfl, fun I β a w Q K hs hfr hK => ?_⟩
        rw [guardA_sound hs hg]
        simp only [if_true]
        obtain ⟨v, w', β', hrun, h1, h2, h3, h4⟩ := stepA_sound hs.sim (hfr _ (.inl rfl)) hs.ev hst
        have hK' := hK (a.put o.dst v) w' I β' (hs.next (e := ⟨o.dst, r, wr, none, some (rdA (Ab.ev st.env) o)⟩) hd h1 h2 h3) (by rw [get_app]; exact h3) (fun m hm hno => (h4.keeps hs.sim) m hm fun e => hno (.inl e))
        unfold Oper.wp
        rcases hrun with hrun | ⟨hrun, rfl⟩
        · rw [hrun]; exact hK'
        · rw [hrun]; exact hK'
    split at h
    · rename_i g args at' hop
      split at h
      · rename_i hf cap hev
        obtain ⟨hle, hdst, ⟨fn, c, hfn, hbody⟩, hcalls⟩ := goCall_sound hc hi h
        refine ⟨hle, hdst, fun I β a w Q K hs hfr hK => ?_⟩
        rw [guardA_sound hs hg]
        simp only [if_true]
        have hgv := hs.ev g
        rw [hev] at hgv
        generalize hge : a.eval g = gv at hgv
        cases hgv with
        | fn _ _ vs _ hl hh =>
          have hrun : (execOp a.eval o).run C.P w = .ok (.enter hf (args.map a.eval ++ vs)) w := by
            have hn1 : ¬ fn.name = "runtime.NumGoroutine" := by simpa using hname hf fn hfn
            have hn2 : ¬ fn.body = none := by rw [hbody]; simp
            simp [execOp, hop, resolve, Deferred.ofValue, hge, invoke, callFunc, hfn, hn1, hn2]
          unfold Oper.wp
          rw [hrun, Oper.upon_enter]
          have hargs : Args I w β (args.map a.eval ++ vs) (args.toList.map (Ab.ev st.env) ++ cap) := by
            refine ⟨by simp [hl], fun j v x hv hx => ?_⟩
            by_cases hj : j < args.size
            · rw [Array.getElem?_append_left (by simpa using hj)] at hv
              rw [List.getElem?_append_left (by simpa using hj)] at hx
              simp [hj] at hv hx
              subst hv; subst hx
              exact hs.ev _
            · rw [Array.getElem?_append_right (by simp; omega)] at hv
              rw [List.getElem?_append_right (by simp; omega)] at hx
              simp at hv hx
              exact hh _ v x hv hx
          refine (hcalls I β w _ hs.sim (fun n h1 h2 => hfr n (.inr ⟨h1, h2⟩)) hargs).mono fun en w' hpost => ?_
          obtain ⟨v, I', β', rfl, e2, e3, e4, e5⟩ := hpost
          have := hK (a.put e.dst v) w' I' β' (hs.next (by rw [hdst]; exact hd) e2 e3 e4) (by rw [get_app]; exact e4) (fun m hm hno => e5 m hm fun hh => hno (.inr hh))
          rw [hdst] at this
          exact this
      · cases h
    · exact plain h

end
end Ab
end Go.Proofs.YtidoflgcblglbaaDoor

/-
  DERIVED. WHAT AN OPERATION's STEP HANGS ON: its operands, and what it looks at.
  Conditions: none of a program's.
-/
namespace Go.Proofs.YtidoflgcblglbaaDoor
namespace Ab
variable [WX]

section
variable {P : Program}

theorem stepA_ops {get : GetF} {ρ ρ' : Operand → AV} {n : Nat} {loc : Nat → Bool} (o : Oper) (h : ∀ x ∈ o.op.operands, ρ x = ρ' x) : stepA P get ρ n loc o = stepA P get ρ' n loc o := by
  have pairs : ∀ ps : Array (Nat × Operand), (∀ x ∈ (ps.toList.map (·.2)).toArray, ρ x = ρ' x) → (ps.toList.map fun p => (p.1, ρ p.2)) = ps.toList.map fun p => (p.1, ρ' p.2) := fun ps hp =>
    List.map_congr_left fun p hm => by rw [hp p.2 (by simp; exact ⟨p.1, by simpa using hm⟩)]
  obtain ⟨dst, op, type, pos, after, guard⟩ := o
  cases op <;> simp only [Op.operands] at h <;> simp only [stepA]
  case build t ps => rw [pairs ps h]
  case buildSlice t n ps => rw [pairs ps h]
  case makeFunc fn first captured =>
    have : captured.toList.map ρ = captured.toList.map ρ' := List.map_congr_left fun x hx => h x (by simp; right; simpa using hx)
    rw [this]
  case call c =>
    cases hc : c.callee with
    | builtin b =>
      simp only
      have : c.args.toList.map ρ = c.args.toList.map ρ' := List.map_congr_left fun x hx => h x (by simp [Call.operands, hc]; simpa using hx)
      rw [this]
    | value f => rfl
    | invoke a b => rfl
  case slice t x lo hi mx => cases lo <;> cases hi <;> cases mx <;> simp_all
  all_goals (first | rfl | (simp_all; done))

theorem rdA_ops {ρ ρ' : Operand → AV} (o : Oper) (h : ∀ x ∈ o.op.operands, ρ x = ρ' x) : rdA ρ o = rdA ρ' o := by
  obtain ⟨dst, op, type, pos, after, guard⟩ := o
  cases op <;> simp only [Op.operands] at h <;> simp only [rdA] <;> (try (first | rfl | (simp_all; done)))
  rename_i c
  have : ∀ x ∈ c.args, ρ x = ρ' x := fun x hx => h x (by unfold Call.operands; exact Array.mem_append.2 (.inr hx))
  have hm : ∀ l : List Operand, (∀ x ∈ l, ρ x = ρ' x) → l.flatMap (fun x => (ρ x).refs0) = l.flatMap fun x => (ρ' x).refs0 := by
    intro l
    induction l with
    | nil => intro _; rfl
    | cons y r ih => intro hl; simp only [List.flatMap_cons, hl y (List.mem_cons_self ..), ih fun x hx => hl x (List.mem_cons_of_mem _ hx)]
  exact hm _ fun x hx => this x (by simpa using hx)

theorem rowsOf_get {get get' : GetF} {a : AV} (h : ∀ r ∈ a.refs0, get r = get' r) : rowsOf get a = rowsOf get' a := by
  cases a <;> simp only [rowsOf]
  rename_i k g i0 len sz
  rw [h (.h k g) (by simp [AV.refs0])]

theorem rowsSz_get {get get' : GetF} {a : AV} {n : Nat} (h : ∀ r ∈ a.refs0, get r = get' r) : rowsSz get n a = rowsSz get' n a := by
  unfold rowsSz
  split <;> first
    | rfl
    | rw [rowsOf_get h]

theorem stepA_get {get get' : GetF} {ρ : Operand → AV} {n : Nat} {loc : Nat → Bool} (o : Oper) (h : ∀ r ∈ rdA ρ o, get r = get' r) : stepA P get ρ n loc o = stepA P get' ρ n loc o := by
  obtain ⟨dst, op, type, pos, after, guard⟩ := o
  cases op <;> simp only [rdA] at h <;> simp only [stepA]
  case load t a =>
    congr 1
    generalize ρ a = x at h
    cases x <;> first
      | rfl
      | (rename_i d n o; simp only [loadA, h (.l d n) (by simp [AV.refs0])]; done)
      | (rename_i k g o; simp only [loadA, h (.h k g) (by simp [AV.refs0])]; done)
      | (rename_i k g i o sz; simp only [loadA, h (.h k g) (by simp [AV.refs0])]; done)
  case store t a x =>
    congr 1
    generalize ρ a = y at h
    cases y <;> first
      | rfl
      | (rename_i d n o; simp only [storeA, h (.l d n) (by simp [AV.refs0])]; done)
      | (rename_i k g o; simp only [storeA, h (.h k g) (by simp [AV.refs0])]; done)
      | (rename_i k g i o sz; simp only [storeA, h (.h k g) (by simp [AV.refs0])]; done)
  case slice t x lo hi mx =>
    generalize ρ x = y at h
    unfold sliceA
    cases hu : P.underlying t with
    | none => rfl
    | some d =>
      cases d <;> cases y <;> first
        | rfl
        | (rename_i k g i0 len sz; simp only [h (.h k g) (by simp [AV.refs0])])
  case convert s d x =>
    generalize ρ x = y at h
    unfold convA
    split <;> first
      | rfl
      | (rw [rowsSz_get h])
      | (rw [h (.h _ _) (by simp [AV.refs0])])
  case lookup t x k ok =>
    generalize ρ x = y at h
    have : mapOf get y = mapOf get' y := by
      unfold mapOf
      split <;> first
        | rfl
        | (rename_i k; rw [h (.h k 0) (by simp [AV.refs0])])
    unfold lookupA
    rw [this]
  case mapUpdate t m k v =>
    generalize ρ m = y at h
    unfold updateA
    cases P.underlying t with
    | none => rfl
    | some d =>
      cases d <;> cases y <;> first
        | rfl
        | (rename_i o; cases o with
           | none => rfl
           | some n => simp only [h (.h n 0) (by simp [AV.refs0])])
  case next it b =>
    generalize ρ it = y at h
    have : nextA get y = nextA get' y := by
      unfold nextA
      split <;> first
        | rfl
        | (rename_i k g; rw [h (.h k g) (by simp [AV.refs0])])
    rw [this]
  case call c =>
    cases hc : c.callee with
    | builtin b =>
      simp only []
      have hargs : ∀ x ∈ c.args.toList.map ρ, ∀ r ∈ x.refs0, get r = get' r := by
        intro x hx r hr
        obtain ⟨y, hy, rfl⟩ := List.mem_map.1 hx
        exact h r (List.mem_flatMap.2 ⟨y, hy, hr⟩)
      generalize c.args.toList.map ρ = args at hargs
      unfold builtinA
      split
      · rename_i t x _
        congr 1
        have hx := hargs x (by simp)
        unfold lenA
        split <;> first
          | rfl
          | (rename_i k _; rw [hx (.h k 0) (by simp [AV.refs0])])
      · rename_i t tx s x _
        have hs := hargs s (by simp)
        have hx := hargs x (by simp)
        have hnews : ∀ sz, newsA get sz x = newsA get' sz x := fun sz => by
          cases x <;> simp only [newsA] <;> exact rowsSz_get hx
        have hrow : ∀ sz b new, appRow get sz b new n s = appRow get' sz b new n s := fun sz b new => by
          unfold appRow
          split <;> first
            | rfl
            | (rename_i k g i0 len sz'; rw [hs (.h k g) (by simp [AV.refs0])])
        simp only [appendA, hnews, hrow]
      · rfl
      · rfl
      · rename_i t _ m k _
        have hm := hargs m (by simp)
        congr 1
        unfold deleteA
        cases P.underlying t with
        | none => rfl
        | some d =>
          cases d <;> cases m <;> first
            | rfl
            | (rename_i o; cases o with
               | none => rfl
               | some n => simp only [hm (.h n 0) (by simp [AV.refs0])])
      · rfl
    | value f => rfl
    | invoke a b => rfl

end
end Ab
end Go.Proofs.YtidoflgcblglbaaDoor

/-
  DERIVED. OPERATIONS OF A REGION THAT DO NOT HANG ON ONE ANOTHER.
  Conditions: none of a program's.
-/
namespace Go.Proofs.YtidoflgcblglbaaDoor
namespace Ab
variable [WX]

theorem mapO_congr {α β : Type} {f g : α → Option β} (h : ∀ x, f x = g x) (l : List α) : mapO f l = mapO g l := by
  have : f = g := funext h
  rw [this]

theorem frz_get {get get' : GetF} (h : ∀ k g, get (.h k g) = get' (.h k g)) : ∀ (n : Nat) (a : AV), frz get n a = frz get' n a
  | 0, _ => rfl
  | n + 1, a => by
    have ih := frz_get h n
    have ih2 : ∀ l, mapO (frz get n) l = mapO (frz get' n) l := mapO_congr ih
    have ih3 : ∀ l, mapO (mapO (frz get n)) l = mapO (mapO (frz get' n)) l := mapO_congr ih2
    cases a <;> simp only [frz, rowsOf, h, ih2, ih3]

section
variable {C : Cfg}

theorem ev_tmps {ops : Array Oper} {o : Oper} {env env' : List (Nat × AV)} (h : ∀ t ∈ tmpsOf ops o, lk env' t = lk env t) (x : Operand) (hx : x ∈ o.op.operands) : ev env' x = ev env x := by
  cases x with
  | tmp t =>
    have ht : t ∈ tmpsOf ops o := by
      unfold tmpsOf
      refine List.mem_append_left _ (List.mem_filterMap.2 ⟨.tmp t, by simpa using hx, rfl⟩)
    simp only [ev, h t ht]
  | const v => rfl
  | global g => rfl
  | func f => rfl

theorem guardA_tmps {ops : Array Oper} {o : Oper} {env env' : List (Nat × AV)} (h : ∀ t ∈ tmpsOf ops o, lk env' t = lk env t) : guardA ops env' o = guardA ops env o := by
  unfold guardA
  cases hg : o.guard with
  | none => rfl
  | some jw =>
    obtain ⟨j, want⟩ := jw
    simp only
    cases ht : (ops[j]?).bind (·.dst) with
    | none => rfl
    | some t =>
      have : t ∈ tmpsOf ops o := by
        unfold tmpsOf
        refine List.mem_append_right _ ?_
        simp [hg, ht]
      simp only [h t this]

/-- What an effect has looked at is the same. -/
def Looks (e : Eff) (st st2 : St) : Prop := match e.rd with
  | some l => ∀ r ∈ l, st2.get r = st.get r
  | none => st2.hp = st.hp

theorem goCallP_looks {p : Bool} {call : CallT} {st st2 : St} {nx nx' : Nat} {dst : Option Nat} {f : FuncId} {args : List AV} {e : Eff} (h : goCallP C p call st nx dst f args = some (e, nx')) (hl : Looks e st st2) :
    goCallP C p call st2 nx dst f args = some (e, nx') := by
  rw [← h]
  unfold goCallP at h ⊢
  split at h
  · rfl
  · split at h
    · rename_i hp
      simp only [hp, if_true]
      split at h
      · rename_i hrf; simp only [hrf, if_true]
      · rename_i hrf
        simp only [if_neg hrf]
        split at h
        · rename_i args' ha
          split at h
          · rename_i r _ _ hc
            split at h
            · cases h
              have hhp : st2.hp = st.hp := hl
              have hg : ∀ k g, st2.get (.h k g) = st.get (.h k g) := fun k g => by simp only [St.get, hhp]
              have : mapO (frz st2.get frzDepth) args = mapO (frz st.get frzDepth) args := mapO_congr (frz_get hg frzDepth) _
              rw [this, ha]
              simp only [hc]
            · cases h
          · cases h
        · cases h
    · rename_i hp
      simp only [if_neg hp]
      split at h
      · rename_i hrf; simp only [hrf, if_true]
      · rename_i hrf
        simp only [if_neg hrf]
        split at h
        · split at h
          · rename_i hc
            cases h
            have hhp : st2.hp = st.hp := hl
            rw [hhp]
            simp only [hc]
          · cases h
        · cases h

theorem goCallP_same {p : Bool} {call : CallT} {st st2 : St} {nx : Nat} {dst : Option Nat} {f : FuncId} {args : List AV} (hl : st2.hp = st.hp) :
    goCallP C p call st2 nx dst f args = goCallP C p call st nx dst f args := by
  unfold goCallP
  have hg : ∀ k g, st2.get (.h k g) = st.get (.h k g) := fun k g => by simp only [St.get, hl]
  rw [mapO_congr (frz_get hg frzDepth) args, hl]
theorem goCallP_rf {p : Bool} {call : CallT} {st st2 : St} {nx : Nat} {dst : Option Nat} {f : FuncId} {args : List AV} (hrf : args.all rf = true) :
    goCallP C p call st2 nx dst f args = goCallP C p call st nx dst f args := by
  unfold goCallP
  simp only [hrf, if_true]
theorem goCallP_rd {call : CallT} {st : St} {nx nx' : Nat} {dst : Option Nat} {f : FuncId} {args : List AV} {e : Eff} (hn : C.intr f = none) (h : goCallP C false call st nx dst f args = some (e, nx')) (hrf : ¬ args.all rf = true) : e.rd = none := by
  unfold goCallP at h
  rw [hn] at h
  simp only [Bool.false_eq_true, if_false, if_neg hrf] at h
  split at h
  · split at h
    · cases h; rfl
    · cases h
  · cases h
theorem goCallF_same {call : CallT} {st st2 : St} {nx : Nat} {dst : Option Nat} {f : FuncId} {args : List AV} (hl : st2.hp = st.hp) :
    goCallF call st2 nx dst f args = goCallF call st nx dst f args := by
  unfold goCallF
  have hg : ∀ k g, st2.get (.h k g) = st.get (.h k g) := fun k g => by simp only [St.get, hl]
  rw [mapO_congr (frz_get hg frzDepth) args]
theorem goCallR_same {call : CallT} {st st2 : St} {nx : Nat} {dst : Option Nat} {f : FuncId} {args : List AV} (hl : st2.hp = st.hp) :
    goCallR call st2 nx dst f args = goCallR call st nx dst f args := by
  unfold goCallR
  rw [hl]
theorem goCallF_rd {call : CallT} {st : St} {nx nx' : Nat} {dst : Option Nat} {f : FuncId} {args : List AV} {e : Eff} (h : goCallF call st nx dst f args = some (e, nx')) : e.rd = none := by
  unfold goCallF at h
  split at h
  · split at h
    · split at h
      · cases h; rfl
      · cases h
    · cases h
  · cases h
theorem frz_rf1 {get get' : GetF} (n : Nat) (x : AV) (hx : rf1 x = true) : frz get (n + 1) x = frz get' (n + 1) x := by
  cases x with
  | b x => simp only [frz]
  | i k x => simp only [frz]
  | s x => simp only [frz]
  | np => simp only [frz]
  | nfn => simp only [frz]
  | vs a c d => simp only [frz]
  | vp c => simp only [frz]
  | fn f cs =>
    have : cs = [] := by simpa [rf1] using hx
    subst this
    simp [frz, mapO]
  | mp k =>
    cases k with
    | none => simp only [frz]
    | some _ => cases hx
  | agg => cases hx
  | tup => cases hx
  | rs => cases hx
  | ptr => cases hx
  | pe => cases hx
  | lp => cases hx
  | undef => cases hx
theorem frz_rf2 {get get' : GetF} (n : Nat) : ∀ (cs : List AV), cs.all rf1 = true → mapO (frz get (n + 1)) cs = mapO (frz get' (n + 1)) cs
  | [], _ => by simp only [mapO]
  | c :: r, hc => by
    simp only [List.all_cons, Bool.and_eq_true] at hc
    simp only [mapO]
    rw [frz_rf1 (get := get) (get' := get') n c hc.1, frz_rf2 n r hc.2]
theorem frz_agg' {get : GetF} {n : Nat} {cs : List AV} : frz get (n + 1) (.agg cs) = (mapO (frz get n) cs).map .agg := by simp only [frz]
theorem frz_rf3 {get get' : GetF} (n : Nat) (x : AV) (hx : rf x = true) : frz get (n + 2) x = frz get' (n + 2) x := by
  by_cases h : ∃ cs, x = .agg cs
  · obtain ⟨cs, rfl⟩ := h
    rw [frz_agg', frz_agg', frz_rf2 (get := get) (get' := get') n cs hx]
  · have hx1 : rf1 x = true := by
      unfold rf at hx
      split at hx
      · rename_i cs; exact absurd ⟨cs, rfl⟩ h
      · exact hx
    exact frz_rf1 (n + 1) x hx1
theorem frz_rf4 {get get' : GetF} (n : Nat) : ∀ (cs : List AV), cs.all rf = true → mapO (frz get (n + 2)) cs = mapO (frz get' (n + 2)) cs
  | [], _ => by simp only [mapO]
  | c :: r, hc => by
    simp only [List.all_cons, Bool.and_eq_true] at hc
    simp only [mapO]
    rw [frz_rf3 (get := get) (get' := get') n c hc.1, frz_rf4 n r hc.2]
theorem frzDepth_eq : frzDepth = 10 + 2 := by unfold frzDepth; rfl
/-- What its arguments are now hangs on no object. -/
theorem frz_rf {get get' : GetF} {l : List AV} (hl : l.all rf = true) : mapO (frz get frzDepth) l = mapO (frz get' frzDepth) l := by
  rw [frzDepth_eq]
  generalize 10 = n
  exact frz_rf4 n l hl
theorem goCallF_rf {call : CallT} {st st2 : St} {nx : Nat} {dst : Option Nat} {f : FuncId} {args : List AV} (hrf : args.all rf = true) :
    goCallF call st2 nx dst f args = goCallF call st nx dst f args := by
  unfold goCallF
  rw [frz_rf (get := st2.get) (get' := st.get) hrf]
theorem goCallH_rd {call : CallT} {st : St} {nx nx' : Nat} {dst : Option Nat} {f : FuncId} {args : List AV} {e : Eff} (h : goCallH call st nx dst f args = some (e, nx')) : e.rd = none := by
  unfold goCallH at h
  split at h
  · split at h
    · cases h; rfl
    · cases h
  · cases h
theorem goCallH_same {call : CallT} {st st2 : St} {nx : Nat} {dst : Option Nat} {f : FuncId} {args : List AV} (hl : st2.hp = st.hp) :
    goCallH call st2 nx dst f args = goCallH call st nx dst f args := by
  unfold goCallH
  rw [hl]
theorem goCall_looks {call : CallT} {st st2 : St} {nx nx' : Nat} {dst : Option Nat} {f : FuncId} {args : List AV} {e : Eff} (h : goCall C call st nx dst f args = some (e, nx')) (hl : Looks e st st2) :
    goCall C call st2 nx dst f args = some (e, nx') := by
  unfold goCall at h ⊢
  split at h
  · rename_i hhe
    rw [if_pos hhe]
    have hrd := goCallH_rd h
    have hhp : st2.hp = st.hp := by
      unfold Looks at hl
      rw [hrd] at hl
      exact hl
    rw [goCallH_same hhp]
    exact h
  rename_i hhe
  rw [if_neg hhe]
  split at h
  · rename_i hfr
    rw [if_pos hfr]
    split at h
    · rename_i x hx
      cases h
      have hrd := goCallF_rd hx
      have hhp : st2.hp = st.hp := by
        unfold Looks at hl
        rw [hrd] at hl
        exact hl
      rw [goCallF_same hhp, hx]
    · rename_i hx
      by_cases hrf : args.all rf = true
      · rw [goCallF_rf (st := st) hrf, hx]
        simp only
        rw [goCallP_rf (st := st) hrf]
        exact h
      · have hi : C.intr f = none := by
          simp only [Bool.and_eq_true, Option.isNone_iff_eq_none] at hfr
          exact hfr.2
        have hrd := goCallP_rd hi h hrf
        have hhp : st2.hp = st.hp := by
          unfold Looks at hl
          rw [hrd] at hl
          exact hl
        rw [goCallF_same hhp, hx]
        simp only
        rw [goCallP_same hhp]
        exact h
  rename_i hfr
  rw [if_neg hfr]
  split at h
  · rename_i hro
    rw [if_pos hro]
    split at h
    · rename_i x hx
      cases h
      obtain ⟨r, rfl, _⟩ := goCallR_eq hx
      rw [goCallR_same hl, hx]
    · rename_i hx
      by_cases hrf : args.all rf = true
      · have h2 : goCallR call st2 nx dst f args = none := by unfold goCallR; rw [if_pos hrf]
        rw [h2]
        simp only
        rw [goCallP_rf (st := st) hrf]
        exact h
      · have hi : C.intr f = none := by
          simp only [Bool.and_eq_true, Option.isNone_iff_eq_none] at hro
          exact hro.2
        have hrd := goCallP_rd hi h hrf
        have hhp : st2.hp = st.hp := by
          unfold Looks at hl
          rw [hrd] at hl
          exact hl
        rw [goCallR_same hhp, hx]
        simp only
        rw [goCallP_same hhp]
        exact h
  rename_i hro
  rw [if_neg hro]
  split at h
  · rename_i x hx
    cases h
    rw [goCallP_looks hx hl]
  · rename_i hx
    split at h
    · rename_i hp
      by_cases hrf : args.all rf = true
      · rw [goCallP_rf (st := st) hrf, hx]
        simp only [hp, if_true]
        rw [goCallP_rf (st := st) hrf]
        exact h
      · cases hi : C.intr f with
        | some g =>
          exfalso
          unfold goCallP at h hx
          rw [hi] at h hx
          rw [h] at hx
          cases hx
        | none =>
          have hrd := goCallP_rd hi h hrf
          have hhp : st2.hp = st.hp := by
            unfold Looks at hl
            rw [hrd] at hl
            exact hl
          rw [goCallP_same hhp, hx]
          simp only [hp, if_true]
          rw [goCallP_same hhp]
          exact h
    · cases h

theorem opA_looks {call : CallT} {f : FuncId} {ops : Array Oper} {base nx i nx' : Nat} {st st2 : St} {o : Oper} {e : Eff} (h : opA C call f ops base st nx i o = some (e, nx'))
    (ht : ∀ t ∈ tmpsOf ops o, lk st2.env t = lk st.env t) (hl : Looks e st st2) : opA C call f ops base st2 nx i o = some (e, nx') := by
  have hev := ev_tmps ht
  unfold opA at h ⊢
  rw [guardA_tmps ht]
  split at h
  · cases h
  · rename_i hg; exact h
  · rename_i hg
    have plain : (stepA C.P st.get (ev st.env) (base + i) (C.loc f) o).map (fun r => ((⟨o.dst, r.1, r.2, none, some (rdA (ev st.env) o)⟩ : Eff), nx)) = some (e, nx') →
        (stepA C.P st2.get (ev st2.env) (base + i) (C.loc f) o).map (fun r => ((⟨o.dst, r.1, r.2, none, some (rdA (ev st2.env) o)⟩ : Eff), nx)) = some (e, nx') := by
      intro h
      rw [stepA_ops (ρ := ev st2.env) (ρ' := ev st.env) o hev, rdA_ops (ρ := ev st2.env) (ρ' := ev st.env) o hev]
      have hrd : e.rd = some (rdA (ev st.env) o) := by
        cases hs : stepA C.P st.get (ev st.env) (base + i) (C.loc f) o with
        | none => simp [hs] at h
        | some x => simp [hs] at h; rw [← h.1]
      unfold Looks at hl
      rw [hrd] at hl
      rw [stepA_get (get := st2.get) (get' := st.get) o hl]
      exact h
    split at h
    · rename_i g args at' hop
      have hge : ev st2.env g = ev st.env g := hev g (by rw [hop]; unfold Op.operands Call.operands; exact Array.mem_append.2 (.inl (by simp)))
      have hae : args.toList.map (ev st2.env) = args.toList.map (ev st.env) := List.map_congr_left fun x hx => hev x (by
        rw [hop]; unfold Op.operands Call.operands; exact Array.mem_append.2 (.inr (by simpa using hx)))
      rw [hge, hae]
      split at h
      · exact goCall_looks h hl
      · cases h
    · exact plain h

end
end Ab
end Go.Proofs.YtidoflgcblglbaaDoor

/-
  DERIVED. EFFECTS IN ANY ORDER: what a state is behind those that have run.
  Conditions: none of a program's.
-/
namespace Go.Proofs.YtidoflgcblglbaaDoor
namespace Ab
variable [WX]

/-- The state behind those effects of a list that are in S. -/
noncomputable def foldS (S : Nat → Bool) : List Eff → Nat → St → St
  | [], _, st => st
  | e :: r, i, st => foldS S r (i + 1) (if S i then st.app e else st)

/-- What one looks at, behind them. -/
def fo {α : Type} (φ : Eff → α → α) (S : Nat → Bool) : List Eff → Nat → α → α
  | [], _, x => x
  | e :: r, i, x => fo φ S r (i + 1) (if S i then φ e x else x)

theorem fo_obs {α : Type} {φ : Eff → α → α} {obs : St → α} (h : ∀ st e, obs (st.app e) = φ e (obs st)) (S : Nat → Bool) : ∀ (es : List Eff) (i : Nat) (st : St), obs (foldS S es i st) = fo φ S es i (obs st)
  | [], _, _ => rfl
  | e :: r, i, st => by
    unfold foldS fo
    rw [fo_obs h S r (i + 1)]
    cases S i with
    | true => simp only [if_true, h]
    | false => simp only [Bool.false_eq_true, if_false]

theorem fo_congr {α : Type} {φ : Eff → α → α} {S T : Nat → Bool} : ∀ (es : List Eff) (i : Nat) (x : α), (∀ j e, es[j]? = some e → S (i + j) = T (i + j) ∨ ∀ x, φ e x = x) → fo φ S es i x = fo φ T es i x
  | [], _, _, _ => rfl
  | e :: r, i, x, h => by
    unfold fo
    have h0 : (if S i = true then φ e x else x) = if T i = true then φ e x else x := by
      rcases h 0 e rfl with h0 | h0
      · simp only [Nat.add_zero] at h0; rw [h0]
      · simp only [h0, ite_self]
    rw [h0]
    exact fo_congr r (i + 1) _ fun j e he => by
      have := h (j + 1) e he
      rwa [show i + (j + 1) = i + 1 + j by omega] at this

theorem fo_none {α : Type} {φ : Eff → α → α} {S : Nat → Bool} (es : List Eff) (i : Nat) (x : α) (h : ∀ j, i ≤ j → S j = false) : fo φ S es i x = x := by
  induction es generalizing i with
  | nil => rfl
  | cons e r ih =>
    unfold fo
    rw [h i (Nat.le_refl _)]
    exact ih (i + 1) fun j hj => h j (by omega)

theorem fo_last {α : Type} {φ : Eff → α → α} {S T : Nat → Bool} {j : Nat} {ej : Eff} : ∀ (es : List Eff) (i : Nat) (x : α), i ≤ j → es[j - i]? = some ej → (∀ k, k < j → S k = T k) → S j = false → T j = true →
    (∀ k, j < k → S k = false ∧ T k = false) → φ ej (fo φ S es i x) = fo φ T es i x
  | [], _, _, _, he, _, _, _, _ => by simp at he
  | e :: r, i, x, hi, he, hlt, hS, hT, hgt => by
    unfold fo
    by_cases hij : i = j
    · subst hij
      simp only [Nat.sub_self, List.getElem?_cons_zero, Option.some.injEq] at he
      subst he
      rw [hS, hT]
      simp only [Bool.false_eq_true, if_false, if_true]
      rw [fo_none _ _ _ fun k hk => (hgt k (by omega)).1, fo_none _ _ _ fun k hk => (hgt k (by omega)).2]
    · rw [hlt i (by omega)]
      refine fo_last r (i + 1) _ (by omega) ?_ hlt hS hT hgt
      rw [show j - i = (j - (i + 1)) + 1 by omega, List.getElem?_cons_succ] at he
      exact he

theorem fo_insert {α : Type} {φ : Eff → α → α} {S : Nat → Bool} {j : Nat} {ej : Eff} {es : List Eff} (he : es[j]? = some ej) (hS : S j = false)
    (hc : ∀ i e, j < i → S i = true → es[i]? = some e → (∀ x, φ e x = x) ∨ ∀ x, φ ej x = x) (x : α) : φ ej (fo φ S es 0 x) = fo φ (fun i => S i || i == j) es 0 x := by
  by_cases h : ∀ x, φ ej x = x
  · rw [h]
    refine fo_congr es 0 x fun k e hk => ?_
    simp only [Nat.zero_add]
    by_cases hkj : k = j
    · subst hkj
      rw [he] at hk; cases hk
      exact .inr h
    · left
      have : (k == j) = false := by simpa using hkj
      rw [this, Bool.or_false]
  · have hin : ∀ i e, j < i → S i = true → es[i]? = some e → ∀ x, φ e x = x := fun i e h1 h2 h3 => (hc i e h1 h2 h3).resolve_right h
    have e1 : fo φ S es 0 x = fo φ (fun i => S i && decide (i < j)) es 0 x := fo_congr es 0 x fun k e hk => by
      simp only [Nat.zero_add]
      by_cases hkj : k < j
      · left; simp [hkj]
      · cases hs : S k with
        | false => left; simp
        | true =>
          right
          have : k ≠ j := fun e => by rw [e, hS] at hs; cases hs
          exact hin k e (by omega) hs hk
    have e2 : fo φ (fun i => S i || i == j) es 0 x = fo φ (fun i => (S i && decide (i < j)) || i == j) es 0 x := fo_congr es 0 x fun k e hk => by
      simp only [Nat.zero_add]
      by_cases hkj : k < j
      · left; simp [hkj]
      · by_cases hkj' : k = j
        · left; simp [hkj']
        · cases hs : S k with
          | false => left; simp
          | true => right; exact hin k e (by omega) hs hk
    rw [e1, e2]
    refine fo_last (j := j) es 0 x (Nat.zero_le _) (by simpa using he) (fun k hk => ?_) (by simp) (by simp) fun k hk => ?_
    · have : (k == j) = false := by simp; omega
      simp [this]
    · have h1 : (k == j) = false := by simp; omega
      have h2 : decide (k < j) = false := by simp; omega
      simp [h1, h2]

theorem foldS_lt (j : Nat) : ∀ (es : List Eff) (i : Nat) (st : St), i ≤ j → foldS (fun k => decide (k < j)) es i st = (es.take (j - i)).foldl St.app st
  | [], _, _, _ => by simp [foldS]
  | e :: r, i, st, hi => by
    unfold foldS
    by_cases h : i < j
    · simp only [h, decide_true, if_true]
      rw [foldS_lt j r (i + 1) _ (by omega), show j - i = (j - (i + 1)) + 1 by omega, List.take_succ_cons, List.foldl_cons]
    · have : i = j := by omega
      subst this
      simp only [Nat.lt_irrefl, decide_false, Bool.false_eq_true, if_false, Nat.sub_self, List.take_zero, List.foldl_nil]
      clear hi h
      suffices ∀ (r : List Eff) (k : Nat) (st : St), i ≤ k → foldS (fun k => decide (k < i)) r k st = st from this r (i + 1) st (by omega)
      intro r
      induction r with
      | nil => intro k st _; rfl
      | cons e r ih =>
        intro k st hk
        unfold foldS
        have : decide (k < i) = false := by simp; omega
        simp only [this, Bool.false_eq_true, if_false]
        exact ih (k + 1) st (by omega)

/- ---------------------------------------------------------------- what is looked at -/

def oE (t : Nat) (e : Eff) (x : Option AV) : Option AV := if e.dst = some t then some e.v else x
noncomputable def oG (r : Ref) (e : Eff) (x : Option AO) : Option AO := match e.hp with
  | some h => match r with
    | .l _ _ => x
    | .h k g => turnG h k g x
  | none => e.wr.foldl (fun y (z : Wr) => if r.key = z.1.key then (if r = z.1 then z.2 else none) else y) x
def hpW (l : Hp) : Wr → Hp
  | (.l _ _, _) => l
  | (.h k g, some o) => up l k (g, o)
  | (.h k _, none) => rm l k
noncomputable def oH (e : Eff) (x : Hp) : Hp := match e.hp with
  | some h => open Classical in if x = h.1 then h.2 else mergeH h.1 h.2 x
  | none => e.wr.foldl hpW x

theorem oE_app (t : Nat) (st : St) (e : Eff) : lk (st.app e).env t = oE t e (lk st.env t) := env_app st e t

theorem foldl_wrG (r : Ref) (l : List Wr) (get : GetF) : l.foldl wrG get r = l.foldl (fun y (z : Wr) => if r.key = z.1.key then (if r = z.1 then z.2 else none) else y) (get r) := by
  induction l generalizing get with
  | nil => rfl
  | cons x l ih => simp only [List.foldl_cons, ih, wrG]

theorem oG_app (r : Ref) (st : St) (e : Eff) : (st.app e).get r = oG r e (st.get r) := by
  rw [get_app]
  unfold effG oG
  cases e.hp with
  | some h => cases r <;> rfl
  | none => exact foldl_wrG _ _ _

theorem hp_wrs (l : List Wr) (st : St) : (st.wrs l).hp = l.foldl hpW st.hp := by
  induction l generalizing st with
  | nil => rfl
  | cons x l ih =>
    have : (st.wr1 x).hp = hpW st.hp x := by
      obtain ⟨r, o⟩ := x
      cases r <;> cases o <;> rfl
    simp only [St.wrs, List.foldl_cons] at ih ⊢
    rw [ih, this]

theorem oH_app (st : St) (e : Eff) : (st.app e).hp = oH e st.hp := by
  unfold St.app oH
  cases e.hp with
  | some h => cases e.dst <;> rfl
  | none => cases e.dst <;> simp [hp_wrs]

theorem oE_id {t : Nat} {e : Eff} (h : e.dst ≠ some t) (x : Option AV) : oE t e x = x := by unfold oE; rw [if_neg h]

theorem oG_id {r : Ref} {e : Eff} (h : e.hp = none) (hk : ∀ k ∈ e.wkeys, r.key ≠ k) (x : Option AO) : oG r e x = x := by
  unfold oG
  rw [h]
  simp only
  have : ∀ z ∈ e.wr, r.key ≠ z.1.key := fun z hz => hk _ (List.mem_map.2 ⟨z, hz, rfl⟩)
  clear hk h
  generalize e.wr = l at this
  induction l generalizing x with
  | nil => rfl
  | cons z l ih =>
    simp only [List.foldl_cons]
    rw [if_neg (this z List.mem_cons_self)]
    exact ih x fun z hz => this z (List.mem_cons_of_mem _ hz)

theorem oG_l {d n : Nat} {e : Eff} {h : Hp × Hp} (hh : e.hp = some h) (x : Option AO) : oG (.l d n) e x = x := by unfold oG; rw [hh]

theorem oH_id {e : Eff} (h : e.hp = none) (hk : ∀ k ∈ e.wkeys, k.1 = true) (x : Hp) : oH e x = x := by
  unfold oH
  rw [h]
  simp only
  have : ∀ z ∈ e.wr, z.1.key.1 = true := fun z hz => hk _ (List.mem_map.2 ⟨z, hz, rfl⟩)
  clear hk h
  generalize e.wr = l at this
  induction l generalizing x with
  | nil => rfl
  | cons z l ih =>
    simp only [List.foldl_cons]
    have hz := this z List.mem_cons_self
    obtain ⟨r, o⟩ := z
    cases r with
    | l d n => exact ih x fun z hz => this z (List.mem_cons_of_mem _ hz)
    | h k g => cases hz

theorem key_of {r r' : Ref} (h : r.key = r'.key) (hr : r.key.1 = true) : ∃ d n, r = .l d n := by
  cases r with
  | l d n => exact ⟨d, n, rfl⟩
  | h k g => cases hr

/-- Of two that are apart, one is nothing to what is looked at. -/
theorem oG_apart {e f : Eff} (h : e.apart f = true) (r : Ref) : (∀ x, oG r e x = x) ∨ ∀ x, oG r f x = x := by
  unfold Eff.apart at h
  rw [Bool.and_eq_true] at h
  obtain ⟨h1, h2⟩ := h
  unfold Eff.clear at h1 h2
  cases he : e.hp with
  | some he' =>
    cases hf : f.hp with
    | some hf' => simp [he, hf] at h1
    | none =>
      simp only [he, hf, Bool.true_and, Bool.and_eq_true, List.all_eq_true] at h1
      cases r with
      | l d n => exact .inl fun x => oG_l he x
      | h k g =>
        right
        refine oG_id hf fun q hq e => ?_
        have := h1.1 q hq
        rw [← e] at this; cases this
  | none =>
    cases hf : f.hp with
    | some hf' =>
      simp only [he, hf, Bool.true_and, Bool.and_eq_true, List.all_eq_true] at h2
      cases r with
      | l d n => exact .inr fun x => oG_l hf x
      | h k g =>
        left
        refine oG_id he fun q hq e => ?_
        have := h2.1 q hq
        rw [← e] at this; cases this
    | none =>
      simp only [he, hf, List.all_eq_true, Bool.and_eq_true] at h1
      by_cases hr : r.key ∈ e.wkeys
      · right
        refine oG_id hf fun q hq e => ?_
        subst e
        have := (h1 _ hr).1.1
        simp [hq] at this
      · left
        exact oG_id he fun q hq e => hr (e ▸ hq)

/-- What one writes is nothing to what the other looks at. -/
theorem oG_looks {e f : Eff} (h : e.clear f = true) {l : List Ref} (hl : f.rd = some l) {r : Ref} (hr : r ∈ l) (x : Option AO) : oG r e x = x := by
  unfold Eff.clear at h
  rw [hl] at h
  cases he : e.hp with
  | some he' =>
    simp only [he, Bool.and_eq_true, List.all_eq_true] at h
    have := h.2 r hr
    cases r with
    | l d n => exact oG_l he x
    | h k g =>
      simp only [sameAt, decide_eq_true_eq] at this
      unfold oG
      rw [he]
      simp only [turnG, if_pos this]
  | none =>
    simp only [he, Bool.and_eq_true, List.all_eq_true] at h
    refine oG_id he (fun q hq e => ?_) x
    subst e
    have := (h _ hq).2
    simp only [Bool.not_eq_true', List.contains_eq_mem, decide_eq_false_iff_not, List.mem_map, not_exists, not_and] at this
    exact this r hr rfl

theorem oH_looks {e f : Eff} (h : e.clear f = true) (hl : f.rd = none) (x : Hp) : oH e x = x := by
  unfold Eff.clear at h
  rw [hl] at h
  cases he : e.hp with
  | some he' => simp [he] at h
  | none =>
    simp only [he, Bool.and_eq_true, List.all_eq_true] at h
    exact oH_id he (fun q hq => (h q hq).2) x

end Ab
end Go.Proofs.YtidoflgcblglbaaDoor
