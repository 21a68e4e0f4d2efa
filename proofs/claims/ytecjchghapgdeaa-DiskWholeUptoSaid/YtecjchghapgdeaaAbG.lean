/-
  DERIVED. The WEAKEST PRECONDITION of a piece of code in the abstract interpreter, as simp laws; what a frozen call comes to.
  Conditions: none of a program's.
-/
import Derived.Test.YtecjchghapgdeaaAbF
set_option linter.all false
set_option maxHeartbeats 4000000
namespace Go.Proofs.Ytecjchghapgdeaa
namespace Ab

/-- An outcome is there, and it answers. -/
def wp (r : Option (Ex × St)) (Q : Ex × St → Prop) : Prop := ∃ x, r = some x ∧ Q x

@[congr] theorem wp_congr {r r' : Option (Ex × St)} {Q : Ex × St → Prop} (h : r = r') : wp r Q = wp r' Q := by rw [h]
@[simp] theorem wp_some {x : Ex × St} {Q : Ex × St → Prop} : wp (some x) Q = Q x := by simp [wp]
@[simp] theorem wp_none {Q : Ex × St → Prop} : wp none Q = False := by simp [wp]
@[simp] theorem wp_ite {p : Prop} [Decidable p] {a b : Option (Ex × St)} {Q : Ex × St → Prop} : wp (if p then a else b) Q = if p then wp a Q else wp b Q := by
  by_cases h : p <;> simp [h]
theorem wp_mono {r : Option (Ex × St)} {Q Q' : Ex × St → Prop} (h : wp r Q) (hq : ∀ x, Q x → Q' x) : wp r Q' := by
  obtain ⟨x, h1, h2⟩ := h
  exact ⟨x, h1, hq x h2⟩

def mapN (r : Option St) : Option (Ex × St) := r.map fun st => (.normal, st)
@[simp] theorem mapN_some {st : St} : mapN (some st) = some (.normal, st) := rfl
@[simp] theorem mapN_none : mapN none = none := rfl
@[simp] theorem mapN_ite {p : Prop} [Decidable p] {a b : Option St} : mapN (if p then a else b) = if p then mapN a else mapN b := by
  by_cases h : p <;> simp [h]

section
variable (C : Cfg) (call : CallT) (k : Nat) (f : FuncId)

def seqQ (b : Code) (Q : Ex × St → Prop) : Ex × St → Prop
  | (.normal, st) => wp (codeA C call k f b st) Q
  | x => Q x
def blkQ (id : Nat) (Q : Ex × St → Prop) : Ex × St → Prop
  | (.exit j, st) => if j = id then Q (.normal, st) else Q (.exit j, st)
  | x => Q x
/-- What a loop comes to. -/
noncomputable def loopK (a : Code) (st : St) : Option (Ex × St) := loopA (codeA C call k f a) k st
@[congr] theorem loopK_congr {a : Code} {st st' : St} (h : st = st') : loopK C call k f a st = loopK C call k f a st' := by rw [h]

@[simp] theorem seqQ_normal {b : Code} {Q : Ex × St → Prop} {st : St} : seqQ C call k f b Q (.normal, st) = wp (codeA C call k f b st) Q := rfl
@[simp] theorem seqQ_ret {b : Code} {Q : Ex × St → Prop} {st : St} : seqQ C call k f b Q (.ret, st) = Q (.ret, st) := rfl
@[simp] theorem seqQ_exit {b : Code} {Q : Ex × St → Prop} {st : St} {j : Nat} : seqQ C call k f b Q (.exit j, st) = Q (.exit j, st) := rfl
@[simp] theorem blkQ_normal {Q : Ex × St → Prop} {st : St} {id : Nat} : blkQ id Q (.normal, st) = Q (.normal, st) := rfl
@[simp] theorem blkQ_ret {Q : Ex × St → Prop} {st : St} {id : Nat} : blkQ id Q (.ret, st) = Q (.ret, st) := rfl
@[simp] theorem blkQ_exit {Q : Ex × St → Prop} {st : St} {id j : Nat} : blkQ id Q (.exit j, st) = if j = id then Q (.normal, st) else Q (.exit j, st) := rfl

@[simp] theorem wp_skip {st : St} {Q : Ex × St → Prop} : wp (codeA C call k f .skip st) Q = Q (.normal, st) := by simp [codeA]
@[simp] theorem wp_ret {st : St} {Q : Ex × St → Prop} : wp (codeA C call k f .ret st) Q = Q (.ret, st) := by simp [codeA]
@[simp] theorem wp_exit {st : St} {id : Nat} {Q : Ex × St → Prop} : wp (codeA C call k f (.exit id) st) Q = Q (.exit id, st) := by simp [codeA]
@[simp] theorem wp_seq {a b : Code} {st : St} {Q : Ex × St → Prop} : wp (codeA C call k f (.seq a b) st) Q = wp (codeA C call k f a st) (seqQ C call k f b Q) := by
  simp only [codeA]
  cases codeA C call k f a st with
  | none => simp
  | some x => obtain ⟨ex, st'⟩ := x; cases ex <;> simp
@[simp] theorem wp_block {a : Code} {id : Nat} {st : St} {Q : Ex × St → Prop} : wp (codeA C call k f (.block id a) st) Q = wp (codeA C call k f a st) (blkQ id Q) := by
  simp only [codeA]
  cases codeA C call k f a st with
  | none => simp
  | some x => obtain ⟨ex, st'⟩ := x; cases ex <;> simp
@[simp] theorem wp_region {ops : Array Oper} {draw : Bool} {id : Nat} {st : St} {Q : Ex × St → Prop} : wp (codeA C call k f (.region id ops draw) st) Q = wp (mapN (regionA C call f id ops draw st)) Q := by
  simp only [codeA, mapN]
@[simp] theorem wp_cond {c : Operand} {a b : Code} {st : St} {Q : Ex × St → Prop} : wp (codeA C call k f (.cond c a b) st) Q = match ev st.env c with
    | .b x => if x = true then wp (codeA C call k f a st) Q else wp (codeA C call k f b st) Q
    | _ => False := by
  simp only [codeA]
  cases ev st.env c with
  | b x => cases x <;> simp
  | _ => simp
@[simp] theorem wp_loop {a : Code} {st : St} {Q : Ex × St → Prop} : wp (codeA C call k f (.loop a) st) Q = wp (loopK C call k f a st) Q := by simp only [codeA, loopK]

/-- What a function's end answers. -/
def retQ (rs : List ResultVar) (Q : AV → Hp → Nat → Prop) : Ex × St → Prop
  | (.normal, st) | (.ret, st) => ∃ l, resA C st rs = some l ∧ Q (one l) st.hp st.nx
  | _ => False
@[simp] theorem retQ_normal {rs : List ResultVar} {Q : AV → Hp → Nat → Prop} {st : St} : retQ C rs Q (.normal, st) = ∃ l, resA C st rs = some l ∧ Q (one l) st.hp st.nx := rfl
@[simp] theorem retQ_ret {rs : List ResultVar} {Q : AV → Hp → Nat → Prop} {st : St} : retQ C rs Q (.ret, st) = ∃ l, resA C st rs = some l ∧ Q (one l) st.hp st.nx := rfl

/-- A call of a function ends and answers. -/
def Ends (args : List AV) (hp : Hp) (nx : Nat) (Q : AV → Hp → Nat → Prop) : Prop := ∃ r hp' nx', runA C call k f args hp nx = some (r, hp', nx') ∧ Q r hp' nx'

variable {C call k f} in
theorem run_wp {fn : Func} {c : Code} {args : List AV} {hp : Hp} {nx : Nat} {Q : AV → Hp → Nat → Prop} (hfn : C.P.funcs[f]? = some fn) (hb : fn.body = some c) (hlen : args.length ≤ fn.ntmps)
    (h : wp (codeA C call k f c { env := enterA args 0, loc := [], hp := hp, nx := nx }) (retQ C fn.results.toList Q)) : Ends C call k f args hp nx Q := by
  obtain ⟨⟨ex, st⟩, h1, h2⟩ := h
  cases ex with
  | exit id => exact absurd h2 (by simp [retQ])
  | normal =>
    obtain ⟨l, h3, h4⟩ := h2
    exact ⟨_, _, _, run_ok hfn hb hlen h1 (.inl rfl) h3, h4⟩
  | ret =>
    obtain ⟨l, h3, h4⟩ := h2
    exact ⟨_, _, _, run_ok hfn hb hlen h1 (.inr rfl) h3, h4⟩

/-- Behind a round. -/
def loopQ (Next : St → Prop) (Q : Ex × St → Prop) : Ex × St → Prop
  | (.normal, st) => Next st
  | x => Q x
@[simp] theorem loopQ_normal {Next : St → Prop} {Q : Ex × St → Prop} {st : St} : loopQ Next Q (.normal, st) = Next st := rfl
@[simp] theorem loopQ_ret {Next : St → Prop} {Q : Ex × St → Prop} {st : St} : loopQ Next Q (.ret, st) = Q (.ret, st) := rfl
@[simp] theorem loopQ_exit {Next : St → Prop} {Q : Ex × St → Prop} {st : St} {j : Nat} : loopQ Next Q (.exit j, st) = Q (.exit j, st) := rfl

variable {C call k f} in
/-- A loop by what falls from round to round: states S of places i that I holds of, μ falling. -/
theorem loop_wp {a : Code} {Q : Ex × St → Prop} {ι : Type} (S : ι → St) (μ : ι → Nat) (I : ι → Prop) {st : St} (i0 : ι) (hst : st = S i0) (h0 : I i0) (hk : μ i0 < k)
    (step : ∀ (Next : St → Prop) (i : ι), I i → (∀ i', μ i' < μ i → I i' → Next (S i')) → wp (codeA C call k f a (S i)) (loopQ Next Q)) : wp (loopK C call k f a st) Q := by
  unfold loopK
  subst hst
  suffices ∀ (n : Nat) (i : ι), μ i < n → I i → wp (loopA (codeA C call k f a) n (S i)) Q from this k i0 hk h0
  intro n
  induction n with
  | zero => intro i hm; omega
  | succ n ih =>
    intro i hm hi
    obtain ⟨⟨ex, st'⟩, h1, h2⟩ := step (fun st' => ∃ i', μ i' < μ i ∧ I i' ∧ st' = S i') i hi (fun i' h3 h4 => ⟨i', h3, h4, rfl⟩)
    cases ex with
    | normal =>
      obtain ⟨i', h3, h4, h5⟩ := h2
      subst h5
      obtain ⟨y, h6, h7⟩ := ih i' (by omega) h4
      exact ⟨y, loopA_next h1 h6, h7⟩
    | exit j => exact ⟨_, loopA_out (by simp) h1, h2⟩
    | ret => exact ⟨_, loopA_out (by simp) h1, h2⟩

/- ---------------------------------------------------------------- frozen calls -/

/-- What a call with what its arguments are now comes to, as it is now. -/
def pR (g : FuncId) (args : List AV) : Option AV := match call g args [] 0 with
  | some (r, hp, _) => frz (hget hp) frzDepth r
  | none => none

end

theorem fl1_frz {get : Ref → Option AO} {n : Nat} {v w : AV} (h : frz get n v = some w) (hw : fl1 w = true) : v = w := by
  cases n with
  | zero => simp [frz] at h
  | succ n =>
    cases v with
    | b x => injection h
    | i k x => injection h
    | s x => injection h
    | np => injection h
    | nfn => injection h
    | vs a c d => injection h
    | vp c => injection h
    | lp _ _ _ => cases h
    | undef => cases h
    | agg cs => simp only [frz, Option.map_eq_some_iff] at h; obtain ⟨z, _, rfl⟩ := h; cases hw
    | tup cs => simp only [frz, Option.map_eq_some_iff] at h; obtain ⟨z, _, rfl⟩ := h; cases hw
    | fn f cs => simp only [frz, Option.map_eq_some_iff] at h; obtain ⟨z, _, rfl⟩ := h; cases hw
    | mp k => cases k with
      | none => injection h
      | some k => cases h
    | rs k g i0 len sz =>
      simp only [frz] at h
      split at h
      · rw [Option.map_eq_some_iff] at h; obtain ⟨z, _, rfl⟩ := h; cases hw
      · cases h
    | ptr k g o =>
      simp only [frz] at h
      split at h
      · rw [Option.map_eq_some_iff] at h; obtain ⟨z, _, rfl⟩ := h; cases hw
      · cases h
    | pe k g i o sz =>
      simp only [frz] at h
      repeat' split at h
      all_goals first
        | (cases h; done)
        | (rw [Option.map_eq_some_iff] at h; obtain ⟨z, _, rfl⟩ := h; cases hw)

theorem fl1_mapO {get : Ref → Option AO} {n : Nat} : ∀ {l r : List AV}, mapO (frz get n) l = some r → r.all fl1 = true → l = r
  | [], r, h, _ => by simp only [mapO] at h; injection h
  | x :: l, r, h, hr => by
    simp only [mapO] at h
    cases hx : frz get n x with
    | none => simp [hx] at h
    | some y =>
      simp only [hx] at h
      cases hl : mapO (frz get n) l with
      | none => simp [hl] at h
      | some r' =>
        simp only [hl, Option.map_some, Option.some.injEq] at h
        subst h
        simp only [List.all_cons, Bool.and_eq_true] at hr
        rw [fl1_frz hx hr.1, fl1_mapO hl hr.2]

theorem fl_frz {get : Ref → Option AO} {n : Nat} {v w : AV} (h : frz get n v = some w) (hw : fl w = true) : v = w := by
  cases n with
  | zero => simp [frz] at h
  | succ n =>
    cases v with
    | b x => injection h
    | i k x => injection h
    | s x => injection h
    | np => injection h
    | nfn => injection h
    | vs a c d => injection h
    | vp c => injection h
    | lp _ _ _ => cases h
    | undef => cases h
    | agg cs => simp only [frz, Option.map_eq_some_iff] at h; obtain ⟨z, h1, rfl⟩ := h; rw [fl1_mapO h1 hw]
    | tup cs => simp only [frz, Option.map_eq_some_iff] at h; obtain ⟨z, h1, rfl⟩ := h; rw [fl1_mapO h1 hw]
    | fn f cs => simp only [frz, Option.map_eq_some_iff] at h; obtain ⟨z, _, rfl⟩ := h; cases hw
    | mp k => cases k with
      | none => injection h
      | some k => cases h
    | rs k g i0 len sz =>
      simp only [frz] at h
      split at h
      · rw [Option.map_eq_some_iff] at h; obtain ⟨z, _, rfl⟩ := h; cases hw
      · cases h
    | ptr k g o =>
      simp only [frz] at h
      split at h
      · rw [Option.map_eq_some_iff] at h; obtain ⟨z, _, rfl⟩ := h; cases hw
      · cases h
    | pe k g i o sz =>
      simp only [frz] at h
      repeat' split at h
      all_goals first
        | (cases h; done)
        | (rw [Option.map_eq_some_iff] at h; obtain ⟨z, _, rfl⟩ := h; cases hw)

theorem fl1_frz_self {get : Ref → Option AO} {n : Nat} {v : AV} (h : fl1 v = true) : frz get (n + 1) v = some v := by
  cases v <;> first | rfl | cases h
theorem fl1_mapO_self {get : Ref → Option AO} {n : Nat} : ∀ {l : List AV}, l.all fl1 = true → mapO (frz get (n + 1)) l = some l
  | [], _ => rfl
  | x :: l, h => by
    simp only [List.all_cons, Bool.and_eq_true] at h
    simp only [mapO, fl1_frz_self h.1, fl1_mapO_self h.2, Option.map_some]
theorem frz_agg {get : Ref → Option AO} {n : Nat} {cs : List AV} : frz get (n + 1) (.agg cs) = (mapO (frz get n) cs).map .agg := by simp only [frz]
theorem frz_tup {get : Ref → Option AO} {n : Nat} {cs : List AV} : frz get (n + 1) (.tup cs) = (mapO (frz get n) cs).map .tup := by simp only [frz]
theorem frz_fn {get : Ref → Option AO} {n : Nat} {f : FuncId} {cs : List AV} : frz get (n + 1) (.fn f cs) = (mapO (frz get n) cs).map (.fn f) := by simp only [frz]
theorem frz_rs {get : Ref → Option AO} {n k g i0 len sz : Nat} : frz get (n + 1) (.rs k g i0 len sz) = match rowsOf get (.rs k g i0 len sz) with
      | some rows => (mapO (mapO (frz get n)) rows).map (.vs false sz)
      | none => none := by simp only [frz]; rfl
theorem frz_ptr {get : Ref → Option AO} {n k g o : Nat} : frz get (n + 1) (.ptr k g o) = match get (.h k g) with
      | some (.cells cs) => (mapO (frz get n) (cs.drop o)).map .vp
      | _ => none := by simp only [frz]; rfl
@[simp] theorem frz_b {get : Ref → Option AO} {n : Nat} {x : Bool} : frz get (n + 1) (.b x) = some (.b x) := rfl
@[simp] theorem frz_i {get : Ref → Option AO} {n : Nat} {k : IntKind} {x : Int} : frz get (n + 1) (.i k x) = some (.i k x) := rfl
@[simp] theorem frz_s {get : Ref → Option AO} {n : Nat} {x : ByteArray} : frz get (n + 1) (.s x) = some (.s x) := rfl
@[simp] theorem frz_np {get : Ref → Option AO} {n : Nat} : frz get (n + 1) .np = some .np := rfl
@[simp] theorem frz_nfn {get : Ref → Option AO} {n : Nat} : frz get (n + 1) .nfn = some .nfn := rfl
@[simp] theorem frz_vs {get : Ref → Option AO} {n : Nat} {a : Bool} {c : Nat} {d : List (List AV)} : frz get (n + 1) (.vs a c d) = some (.vs a c d) := rfl
@[simp] theorem frz_vp {get : Ref → Option AO} {n : Nat} {c : List AV} : frz get (n + 1) (.vp c) = some (.vp c) := rfl
attribute [simp] frz_agg frz_tup frz_fn frz_rs frz_ptr
theorem fl_frz_self {get : Ref → Option AO} {v : AV} (h : fl v = true) : frz get frzDepth v = some v := by
  unfold frzDepth
  cases v with
  | agg cs => rw [frz_agg, fl1_mapO_self h]; rfl
  | tup cs => rw [frz_tup, fl1_mapO_self h]; rfl
  | _ => first | rfl | cases h

/-- What is seen of a frozen call in a region. -/
def pCall (call : CallT) (st : St) (nx : Nat) (dst : Option Nat) (g : FuncId) (args : List AV) : Option (Eff × Nat) :=
  if args.all rf = true then (match pR call g args with
        | some r => some (⟨dst, r, [], none, some []⟩, nx)
        | none => none)
      else match mapO (frz st.get frzDepth) args with
        | some args' => (match pR call g args' with
          | some r => if fl r = true then some (⟨dst, r, [], none, none⟩, nx) else none
          | none => none)
        | none => none
/-- What is seen of a call that works on the heap. -/
def nCall (call : CallT) (st : St) (nx : Nat) (dst : Option Nat) (g : FuncId) (args : List AV) : Option (Eff × Nat) :=
  if args.all rf = true then (match call g args [] nx with
      | some (r, hp, nx') => some (⟨dst, r, hp.reverse.map (fun x => (.h x.1 x.2.1, some x.2.2)), none, some []⟩, nx')
      | none => none)
    else if args.all AV.mv = true then (match call g args st.hp nx with
      | some (r, hp, nx') => some (⟨dst, r, [], some hp, none⟩, nx')
      | none => none)
    else none
theorem goCallP_n {C : Cfg} {call : CallT} {st : St} {nx : Nat} {dst : Option Nat} {g : FuncId} {args : List AV} (hi : C.intr g = none) : goCallP C false call st nx dst g args = nCall call st nx dst g args := by
  unfold goCallP nCall
  simp only [hi, Bool.false_eq_true, if_false]
  rfl
theorem goCallP_eq {C : Cfg} {call : CallT} {st : St} {nx : Nat} {dst : Option Nat} {g : FuncId} {args : List AV} (hi : C.intr g = none) : goCallP C true call st nx dst g args = pCall call st nx dst g args := by
  unfold pCall
  unfold goCallP
  simp only [hi, if_true]
  by_cases ha : args.all rf = true
  · simp only [ha, if_true]
    unfold pR
    cases call g args [] 0 with
    | none => rfl
    | some x =>
      obtain ⟨r, h, n⟩ := x
      simp only
      cases frz (hget h) frzDepth r <;> rfl
  · simp only [ha]
    simp only [Bool.false_eq_true, if_false]
    cases mapO (frz st.get frzDepth) args with
    | none => rfl
    | some args' =>
      simp only
      unfold pR
      cases call g args' [] 0 with
      | none => rfl
      | some x =>
        obtain ⟨r, h, n⟩ := x
        simp only
        by_cases hr : fl r = true
        · simp only [hr, if_true, fl_frz_self hr]
        · cases hz : frz (hget h) frzDepth r with
          | none => simp only [if_neg hr]
          | some y =>
            have hy : ¬ fl y = true := fun hy => hr (by rw [fl_frz hz hy]; exact hy)
            simp only [if_neg hr, if_neg hy]

/-- A call of a function that is told by what its arguments are: that, or a call on the heap. -/
def pnCall (call : CallT) (st : St) (nx : Nat) (dst : Option Nat) (g : FuncId) (args : List AV) : Option (Eff × Nat) := match pCall call st nx dst g args with
  | some x => some x
  | none => nCall call st nx dst g args
/-- A call with what its arguments are now, what it makes laid beside; else on the heap. -/
def fCall (call : CallT) (st : St) (nx : Nat) (dst : Option Nat) (g : FuncId) (args : List AV) : Option (Eff × Nat) := match mapO (frz st.get frzDepth) args with
  | some args' => (match call g args' [] nx with
    | some (r, hp, nx') => if (nov r && hp.all fun x => novO x.2.2) = true then some (⟨dst, r, hp.reverse.map (fun x => (.h x.1 x.2.1, some x.2.2)), none, none⟩, nx') else nCall call st nx dst g args
    | none => nCall call st nx dst g args)
  | none => nCall call st nx dst g args
theorem goCall_f {C : Cfg} {call : CallT} {st : St} {nx : Nat} {dst : Option Nat} {g : FuncId} {args : List AV} (hi : C.intr g = none) (hf : C.fresh g = true) : goCall C call st nx dst g args = fCall call st nx dst g args := by
  unfold goCall fCall goCallF
  simp only [hf, hi, Option.isNone_none, Bool.and_true, if_true]
  rw [goCallP_n hi]
  cases mapO (frz st.get frzDepth) args with
  | none => rfl
  | some args' =>
    simp only
    cases call g args' [] nx with
    | none => rfl
    | some x =>
      obtain ⟨r, h, n⟩ := x
      simp only
      by_cases hq : (nov r && h.all fun x => novO x.2.2) = true
      · simp only [if_pos hq]
      · simp only [if_neg hq]
/-- A call that leaves the heap as it is; else on the heap. -/
noncomputable def rCall (call : CallT) (st : St) (nx : Nat) (dst : Option Nat) (g : FuncId) (args : List AV) : Option (Eff × Nat) := match goCallR call st nx dst g args with
  | some x => some x
  | none => nCall call st nx dst g args
theorem goCall_r {C : Cfg} {call : CallT} {st : St} {nx : Nat} {dst : Option Nat} {g : FuncId} {args : List AV} (hi : C.intr g = none) (hf : C.fresh g = false) (hr : C.ro g = true) : goCall C call st nx dst g args = rCall call st nx dst g args := by
  unfold goCall rCall
  simp only [hf, hr, hi, Option.isNone_none, Bool.and_true, Bool.false_eq_true, if_false, if_true]
  rw [goCallP_n hi]
  cases goCallR call st nx dst g args <;> rfl
theorem goCall_n {C : Cfg} {call : CallT} {st : St} {nx : Nat} {dst : Option Nat} {g : FuncId} {args : List AV} (hi : C.intr g = none) (hp : C.pure g = false) (hf : C.fresh g = false) (hr : C.ro g = false) : goCall C call st nx dst g args = nCall call st nx dst g args := by
  unfold goCall
  rw [hp, hf, hr, goCallP_n hi]
  simp only [Bool.false_and, Bool.false_eq_true, if_false]
  cases nCall call st nx dst g args <;> rfl
theorem goCall_eq {C : Cfg} {call : CallT} {st : St} {nx : Nat} {dst : Option Nat} {g : FuncId} {args : List AV} (hi : C.intr g = none) (hp : C.pure g = true) (hf : C.fresh g = false) (hr : C.ro g = false) : goCall C call st nx dst g args = pnCall call st nx dst g args := by
  unfold goCall pnCall
  rw [hp, hf, hr, goCallP_eq hi, goCallP_n hi]
  simp only [Bool.false_and, Bool.false_eq_true, if_false, if_true]
  cases pCall call st nx dst g args <;> rfl
theorem goCall_i {C : Cfg} {call : CallT} {st : St} {nx : Nat} {dst : Option Nat} {g : FuncId} {args : List AV} {h : List AV → Option AV} {r : AV} (hi : C.intr g = some h) (hr : h args = some r) : goCall C call st nx dst g args = some (⟨dst, r, [], none, some []⟩, nx) := by
  unfold goCall goCallP
  rw [hi]
  simp only [hr, Option.map_some, Option.isNone_some, Bool.and_false, Bool.false_eq_true, if_false]

/-- A call at a depth, of a function that has no law of its own. -/
theorem callA_at {C : Cfg} {K n : Nat} {f : FuncId} (h : C.hint f = none) : callA C K (n + 1) f = runA C (callA C K n) K f := by
  funext args hp nx
  simp only [callA, h]
theorem callA_hint {C : Cfg} {K n : Nat} {f : FuncId} {g : List AV → Hp → Nat → Option (AV × Hp × Nat)} (h : C.hint f = some g) : callA C K (n + 1) f = g := by
  funext args hp nx
  simp only [callA, h]
theorem pR_at {C : Cfg} {K n : Nat} {f : FuncId} {args : List AV} (h : C.hint f = none) : pR (callA C K (n + 1)) f args = pR (runA C (callA C K n) K) f args := by
  unfold pR
  rw [callA_at h]

theorem pR_of {C : Cfg} {call : CallT} {k : Nat} {f : FuncId} {args : List AV} {r : AV} (h : Ends C call k f args [] 0 fun r' _ _ => r' = r) (hr : fl r = true) : pR (runA C call k) f args = some r := by
  obtain ⟨r', hp', nx', h1, rfl⟩ := h
  unfold pR
  rw [h1]
  exact fl_frz_self hr

end Ab
end Go.Proofs.Ytecjchghapgdeaa

/-
  DERIVED. The interpreter's definitions as simp laws.
  Conditions: none of a program's.
-/
namespace Go.Proofs.Ytecjchghapgdeaa
namespace Ab
attribute [simp] regionA opsA opA guardA stepA ev lk up St.app St.wrs ret indexAddrA loadA storeA binA intBin ldA stA restrict rdA ofC ofC0 Op.operands aggD builtinA lenA St.wr1 St.get lkg unA frzDepth rf mapO hget fl resA one nextA sliceA cutEnds strBin indexA enterA buildA fillA pCall nCall pnCall fCall rCall goCallR sameA findA keyD mapOf lookupA updateA deleteA
/-- What the kernel alone looks at. -/
def kr (b : Bool) : Bool := b
theorem kr_intro {b : Bool} (h : b = true) : kr b = true := h
theorem stat_t {ops : Array Oper} {bef : List (List Nat)} (h : kr (statOk ops bef) = true) : statOk ops bef = true := h
theorem dyn_t {bef : List (List Nat)} {es : List Eff} (h : kr (dynOk bef es) = true) : dynOk bef es = true := h
@[simp] theorem rf1_b (x : Bool) : rf1 (.b x) = true := rfl
@[simp] theorem fl1_b (x : Bool) : fl1 (.b x) = true := rfl
@[simp] theorem rf1_i (k : IntKind) (x : Int) : rf1 (.i k x) = true := rfl
@[simp] theorem fl1_i (k : IntKind) (x : Int) : fl1 (.i k x) = true := rfl
@[simp] theorem rf1_s (x : ByteArray) : rf1 (.s x) = true := rfl
@[simp] theorem fl1_s (x : ByteArray) : fl1 (.s x) = true := rfl
@[simp] theorem rf1_np  : rf1 (.np) = true := rfl
@[simp] theorem fl1_np  : fl1 (.np) = false := rfl
@[simp] theorem rf1_nfn  : rf1 (.nfn) = true := rfl
@[simp] theorem fl1_nfn  : fl1 (.nfn) = false := rfl
@[simp] theorem rf1_vs (a : Bool) (n : Nat) (r : List (List AV)) : rf1 (.vs a n r) = true := rfl
@[simp] theorem fl1_vs (a : Bool) (n : Nat) (r : List (List AV)) : fl1 (.vs a n r) = false := rfl
@[simp] theorem rf1_vp (c : List AV) : rf1 (.vp c) = true := rfl
@[simp] theorem fl1_vp (c : List AV) : fl1 (.vp c) = false := rfl
@[simp] theorem rf1_rs (k g i n z : Nat) : rf1 (.rs k g i n z) = false := rfl
@[simp] theorem fl1_rs (k g i n z : Nat) : fl1 (.rs k g i n z) = false := rfl
@[simp] theorem rf1_ptr (k g o : Nat) : rf1 (.ptr k g o) = false := rfl
@[simp] theorem fl1_ptr (k g o : Nat) : fl1 (.ptr k g o) = false := rfl
@[simp] theorem rf1_pe (k g i o z : Nat) : rf1 (.pe k g i o z) = false := rfl
@[simp] theorem fl1_pe (k g i o z : Nat) : fl1 (.pe k g i o z) = false := rfl
@[simp] theorem rf1_lp (k g o : Nat) : rf1 (.lp k g o) = false := rfl
@[simp] theorem fl1_lp (k g o : Nat) : fl1 (.lp k g o) = false := rfl
@[simp] theorem rf1_agg (c : List AV) : rf1 (.agg c) = false := rfl
@[simp] theorem fl1_agg (c : List AV) : fl1 (.agg c) = false := rfl
@[simp] theorem rf1_tup (c : List AV) : rf1 (.tup c) = false := rfl
@[simp] theorem fl1_tup (c : List AV) : fl1 (.tup c) = false := rfl
@[simp] theorem rf1_mp0  : rf1 (.mp none) = true := rfl
@[simp] theorem fl1_mp0  : fl1 (.mp none) = false := rfl
@[simp] theorem rf1_mp1 (k : Nat) : rf1 (.mp (some k)) = false := rfl
@[simp] theorem fl1_mp1 (k : Nat) : fl1 (.mp (some k)) = false := rfl
@[simp] theorem rf1_fn (f : FuncId) (c : List AV) : rf1 (.fn f c) = c.isEmpty := rfl
@[simp] theorem fl1_fn (f : FuncId) (c : List AV) : fl1 (.fn f c) = false := rfl
@[simp] theorem nov1_b (x : Bool) : nov1 (.b x) = true := rfl
@[simp] theorem nov1_i (k : IntKind) (x : Int) : nov1 (.i k x) = true := rfl
@[simp] theorem nov1_s (x : ByteArray) : nov1 (.s x) = true := rfl
@[simp] theorem nov1_np : nov1 .np = true := rfl
@[simp] theorem nov1_rs (k g i n z : Nat) : nov1 (.rs k g i n z) = true := rfl
@[simp] theorem nov1_ptr (k g o : Nat) : nov1 (.ptr k g o) = true := rfl
@[simp] theorem nov1_pe (k g i o z : Nat) : nov1 (.pe k g i o z) = true := rfl
@[simp] theorem nov1_mp (o : Option Nat) : nov1 (.mp o) = true := rfl
@[simp] theorem nov1_vs (a : Bool) (n : Nat) (r : List (List AV)) : nov1 (.vs a n r) = r.isEmpty := rfl
@[simp] theorem nov_b (x : Bool) : nov (.b x) = true := rfl
@[simp] theorem nov_i (k : IntKind) (x : Int) : nov (.i k x) = true := rfl
@[simp] theorem nov_s (x : ByteArray) : nov (.s x) = true := rfl
@[simp] theorem nov_np : nov .np = true := rfl
@[simp] theorem nov_rs (k g i n z : Nat) : nov (.rs k g i n z) = true := rfl
@[simp] theorem nov_ptr (k g o : Nat) : nov (.ptr k g o) = true := rfl
@[simp] theorem nov_mp (o : Option Nat) : nov (.mp o) = true := rfl
@[simp] theorem nov_vs (a : Bool) (n : Nat) (r : List (List AV)) : nov (.vs a n r) = r.isEmpty := rfl
@[simp] theorem nov_agg (c : List AV) : nov (.agg c) = c.all nov1 := rfl
@[simp] theorem nov_tup (c : List AV) : nov (.tup c) = c.all nov1 := rfl
@[simp] theorem novO_cells (c : List AV) : novO (.cells c) = c.all nov1 := rfl
@[simp] theorem novO_arr (z : Nat) (r : List (List AV)) : novO (.arr z r) = r.all (·.all nov1) := rfl
end Ab
end Go.Proofs.Ytecjchghapgdeaa
