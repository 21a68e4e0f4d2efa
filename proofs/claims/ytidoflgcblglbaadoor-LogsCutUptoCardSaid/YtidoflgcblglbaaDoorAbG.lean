/-
  DERIVED. The WEAKEST PRECONDITION of a piece of code in the abstract interpreter, as simp laws; what a frozen call comes to.
  Conditions: none of a program's.
-/
import Derived.Test.YtidoflgcblglbaaDoorAbF
set_option linter.all false
set_option maxHeartbeats 4000000
namespace Go.Proofs.YtidoflgcblglbaaDoor
namespace Ab

/-- An outcome is there, and it answers. -/
def wp (r : Option (Ex × St)) (Q : Ex × St → Prop) : Prop := ∃ x, r = some x ∧ Q x

@[congr] theorem wp_congr {r r' : Option (Ex × St)} {Q : Ex × St → Prop} (h : r = r') : wp r Q = wp r' Q := by rw [h]
@[simp] theorem wp_some {x : Ex × St} {Q : Ex × St → Prop} : wp (some x) Q = Q x := by simp [wp]
@[simp] theorem wp_none {Q : Ex × St → Prop} : wp none Q = False := by simp [wp]
@[simp] theorem wp_ite {p : Prop} [Decidable p] {a b : Option (Ex × St)} {Q : Ex × St → Prop} : wp (if p then a else b) Q = if p then wp a Q else wp b Q := by
  by_cases h : p <;> simp [h]
theorem wp_mono {r : Option (Ex × St)} {Q Q' : Ex × St → Prop} (h : wp r Q) (hq : ∀ x, Q x → Q' x) : wp r Q' := by
  obtain ⟨x, h1, h2⟩ := h
  exact ⟨x, h1, hq x h2⟩

def mapN (r : Option St) : Option (Ex × St) := r.map fun st => (.normal, st)
@[simp] theorem mapN_some {st : St} : mapN (some st) = some (.normal, st) := rfl
@[simp] theorem mapN_none : mapN none = none := rfl
@[simp] theorem mapN_ite {p : Prop} [Decidable p] {a b : Option St} : mapN (if p then a else b) = if p then mapN a else mapN b := by
  by_cases h : p <;> simp [h]

section
variable (C : Cfg) (call : CallT) (k : Nat) (f : FuncId)

def seqQ (b : Code) (Q : Ex × St → Prop) : Ex × St → Prop
  | (.normal, st) => wp (codeA C call k f b st) Q
  | x => Q x
def blkQ (id : Nat) (Q : Ex × St → Prop) : Ex × St → Prop
  | (.exit j, st) => if j = id then Q (.normal, st) else Q (.exit j, st)
  | x => Q x
/-- What a loop comes to. -/
noncomputable def loopK (a : Code) (st : St) : Option (Ex × St) := loopA (codeA C call k f a) k st
@[congr] theorem loopK_congr {a : Code} {st st' : St} (h : st = st') : loopK C call k f a st = loopK C call k f a st' := by rw [h]

@[simp] theorem seqQ_normal {b : Code} {Q : Ex × St → Prop} {st : St} : seqQ C call k f b Q (.normal, st) = wp (codeA C call k f b st) Q := rfl
@[simp] theorem seqQ_ret {b : Code} {Q : Ex × St → Prop} {st : St} : seqQ C call k f b Q (.ret, st) = Q (.ret, st) := rfl
@[simp] theorem seqQ_exit {b : Code} {Q : Ex × St → Prop} {st : St} {j : Nat} : seqQ C call k f b Q (.exit j, st) = Q (.exit j, st) := rfl
@[simp] theorem blkQ_normal {Q : Ex × St → Prop} {st : St} {id : Nat} : blkQ id Q (.normal, st) = Q (.normal, st) := rfl
@[simp] theorem blkQ_ret {Q : Ex × St → Prop} {st : St} {id : Nat} : blkQ id Q (.ret, st) = Q (.ret, st) := rfl
@[simp] theorem blkQ_exit {Q : Ex × St → Prop} {st : St} {id j : Nat} : blkQ id Q (.exit j, st) = if j = id then Q (.normal, st) else Q (.exit j, st) := rfl

@[simp] theorem wp_skip {st : St} {Q : Ex × St → Prop} : wp (codeA C call k f .skip st) Q = Q (.normal, st) := by simp [codeA]
@[simp] theorem wp_ret {st : St} {Q : Ex × St → Prop} : wp (codeA C call k f .ret st) Q = Q (.ret, st) := by simp [codeA]
@[simp] theorem wp_exit {st : St} {id : Nat} {Q : Ex × St → Prop} : wp (codeA C call k f (.exit id) st) Q = Q (.exit id, st) := by simp [codeA]
@[simp] theorem wp_seq {a b : Code} {st : St} {Q : Ex × St → Prop} : wp (codeA C call k f (.seq a b) st) Q = wp (codeA C call k f a st) (seqQ C call k f b Q) := by
  simp only [codeA]
  cases codeA C call k f a st with
  | none => simp
  | some x => obtain ⟨ex, st'⟩ := x; cases ex <;> simp
@[simp] theorem wp_block {a : Code} {id : Nat} {st : St} {Q : Ex × St → Prop} : wp (codeA C call k f (.block id a) st) Q = wp (codeA C call k f a st) (blkQ id Q) := by
  simp only [codeA]
  cases codeA C call k f a st with
  | none => simp
  | some x => obtain ⟨ex, st'⟩ := x; cases ex <;> simp
theorem wp_region {ops : Array Oper} {draw : Bool} {id : Nat} {st : St} {Q : Ex × St → Prop} : wp (codeA C call k f (.region id ops draw) st) Q = wp (mapN (regionA C call f id ops draw st)) Q := by
  simp only [codeA, mapN]
@[simp] theorem wp_cond {c : Operand} {a b : Code} {st : St} {Q : Ex × St → Prop} : wp (codeA C call k f (.cond c a b) st) Q = match ev st.env c with
    | .b x => if x = true then wp (codeA C call k f a st) Q else wp (codeA C call k f b st) Q
    | _ => False := by
  simp only [codeA]
  cases ev st.env c with
  | b x => cases x <;> simp
  | _ => simp
@[simp] theorem wp_loop {a : Code} {st : St} {Q : Ex × St → Prop} : wp (codeA C call k f (.loop a) st) Q = wp (loopK C call k f a st) Q := by simp only [codeA, loopK]

/-- What a function's end answers. -/
def retQ (rs : List ResultVar) (Q : AV → Hp → Nat → Prop) : Ex × St → Prop
  | (.normal, st) | (.ret, st) => ∃ l, resA C st rs = some l ∧ Q (one l) st.hp st.nx
  | _ => False
@[simp] theorem retQ_normal {rs : List ResultVar} {Q : AV → Hp → Nat → Prop} {st : St} : retQ C rs Q (.normal, st) = ∃ l, resA C st rs = some l ∧ Q (one l) st.hp st.nx := rfl
@[simp] theorem retQ_ret {rs : List ResultVar} {Q : AV → Hp → Nat → Prop} {st : St} : retQ C rs Q (.ret, st) = ∃ l, resA C st rs = some l ∧ Q (one l) st.hp st.nx := rfl

/-- A call of a function ends and answers. -/
def Ends (args : List AV) (hp : Hp) (nx : Nat) (Q : AV → Hp → Nat → Prop) : Prop := ∃ r hp' nx', runA C call k f args hp nx = some (r, hp', nx') ∧ Q r hp' nx'

variable {C call k f} in
theorem run_wp {fn : Func} {c : Code} {args : List AV} {hp : Hp} {nx : Nat} {Q : AV → Hp → Nat → Prop} (hfn : C.P.funcs[f]? = some fn) (hb : fn.body = some c) (hlen : args.length ≤ fn.ntmps)
    (h : wp (codeA C call k f c { env := enterA args 0, loc := [], hp := hp, nx := nx }) (retQ C fn.results.toList Q)) : Ends C call k f args hp nx Q := by
  obtain ⟨⟨ex, st⟩, h1, h2⟩ := h
  cases ex with
  | exit id => exact absurd h2 (by simp [retQ])
  | normal =>
    obtain ⟨l, h3, h4⟩ := h2
    exact ⟨_, _, _, run_ok hfn hb hlen h1 (.inl rfl) h3, h4⟩
  | ret =>
    obtain ⟨l, h3, h4⟩ := h2
    exact ⟨_, _, _, run_ok hfn hb hlen h1 (.inr rfl) h3, h4⟩

/-- Behind a round. -/
def loopQ (Next : St → Prop) (Q : Ex × St → Prop) : Ex × St → Prop
  | (.normal, st) => Next st
  | x => Q x
@[simp] theorem loopQ_normal {Next : St → Prop} {Q : Ex × St → Prop} {st : St} : loopQ Next Q (.normal, st) = Next st := rfl
@[simp] theorem loopQ_ret {Next : St → Prop} {Q : Ex × St → Prop} {st : St} : loopQ Next Q (.ret, st) = Q (.ret, st) := rfl
@[simp] theorem loopQ_exit {Next : St → Prop} {Q : Ex × St → Prop} {st : St} {j : Nat} : loopQ Next Q (.exit j, st) = Q (.exit j, st) := rfl

variable {C call k f} in
/-- A loop by what falls from round to round: states S of places i that I holds of, μ falling. -/
theorem loop_wp {a : Code} {Q : Ex × St → Prop} {ι : Type} (S : ι → St) (μ : ι → Nat) (I : ι → Prop) {st : St} (i0 : ι) (hst : st = S i0) (h0 : I i0) (hk : μ i0 < k)
    (step : ∀ (Next : St → Prop) (i : ι), I i → (∀ i', μ i' < μ i → I i' → Next (S i')) → wp (codeA C call k f a (S i)) (loopQ Next Q)) : wp (loopK C call k f a st) Q := by
  unfold loopK
  subst hst
  suffices ∀ (n : Nat) (i : ι), μ i < n → I i → wp (loopA (codeA C call k f a) n (S i)) Q from this k i0 hk h0
  intro n
  induction n with
  | zero => intro i hm; omega
  | succ n ih =>
    intro i hm hi
    obtain ⟨⟨ex, st'⟩, h1, h2⟩ := step (fun st' => ∃ i', μ i' < μ i ∧ I i' ∧ st' = S i') i hi (fun i' h3 h4 => ⟨i', h3, h4, rfl⟩)
    cases ex with
    | normal =>
      obtain ⟨i', h3, h4, h5⟩ := h2
      subst h5
      obtain ⟨y, h6, h7⟩ := ih i' (by omega) h4
      exact ⟨y, loopA_next h1 h6, h7⟩
    | exit j => exact ⟨_, loopA_out (by simp) h1, h2⟩
    | ret => exact ⟨_, loopA_out (by simp) h1, h2⟩

/- ---------------------------------------------------------------- frozen calls -/

/-- What a call with what its arguments are now comes to, as it is now. -/
def pR (g : FuncId) (args : List AV) : Option AV := match call g args [] 0 with
  | some (r, hp, _) => frz (hget hp) frzDepth r
  | none => none

end

theorem fl1_frz {get : Ref → Option AO} {n : Nat} {v w : AV} (h : frz get n v = some w) (hw : fl1 w = true) : v = w := by
  cases n with
  | zero => simp [frz] at h
  | succ n =>
    cases v with
    | b x => injection h
    | i k x => injection h
    | s x => injection h
    | np => injection h
    | nfn => injection h
    | vs a c d => injection h
    | vp c => injection h
    | lp _ _ _ => cases h
    | undef => cases h
    | agg cs => simp only [frz, Option.map_eq_some_iff] at h; obtain ⟨z, _, rfl⟩ := h; cases hw
    | tup cs => simp only [frz, Option.map_eq_some_iff] at h; obtain ⟨z, _, rfl⟩ := h; cases hw
    | fn f cs => simp only [frz, Option.map_eq_some_iff] at h; obtain ⟨z, _, rfl⟩ := h; cases hw
    | mp k => cases k with
      | none => injection h
      | some k => cases h
    | rs k g i0 len sz =>
      simp only [frz] at h
      split at h
      · rw [Option.map_eq_some_iff] at h; obtain ⟨z, _, rfl⟩ := h; cases hw
      · cases h
    | ptr k g o =>
      simp only [frz] at h
      split at h
      · rw [Option.map_eq_some_iff] at h; obtain ⟨z, _, rfl⟩ := h; cases hw
      · cases h
    | pe k g i o sz =>
      simp only [frz] at h
      repeat' split at h
      all_goals first
        | (cases h; done)
        | (rw [Option.map_eq_some_iff] at h; obtain ⟨z, _, rfl⟩ := h; cases hw)

theorem fl1_mapO {get : Ref → Option AO} {n : Nat} : ∀ {l r : List AV}, mapO (frz get n) l = some r → r.all fl1 = true → l = r
  | [], r, h, _ => by simp only [mapO] at h; injection h
  | x :: l, r, h, hr => by
    simp only [mapO] at h
    cases hx : frz get n x with
    | none => simp [hx] at h
    | some y =>
      simp only [hx] at h
      cases hl : mapO (frz get n) l with
      | none => simp [hl] at h
      | some r' =>
        simp only [hl, Option.map_some, Option.some.injEq] at h
        subst h
        simp only [List.all_cons, Bool.and_eq_true] at hr
        rw [fl1_frz hx hr.1, fl1_mapO hl hr.2]

theorem fl_frz {get : Ref → Option AO} {n : Nat} {v w : AV} (h : frz get n v = some w) (hw : fl w = true) : v = w := by
  cases n with
  | zero => simp [frz] at h
  | succ n =>
    cases v with
    | b x => injection h
    | i k x => injection h
    | s x => injection h
    | np => injection h
    | nfn => injection h
    | vs a c d => injection h
    | vp c => injection h
    | lp _ _ _ => cases h
    | undef => cases h
    | agg cs => simp only [frz, Option.map_eq_some_iff] at h; obtain ⟨z, h1, rfl⟩ := h; rw [fl1_mapO h1 hw]
    | tup cs => simp only [frz, Option.map_eq_some_iff] at h; obtain ⟨z, h1, rfl⟩ := h; rw [fl1_mapO h1 hw]
    | fn f cs => simp only [frz, Option.map_eq_some_iff] at h; obtain ⟨z, _, rfl⟩ := h; cases hw
    | mp k => cases k with
      | none => injection h
      | some k => cases h
    | rs k g i0 len sz =>
      simp only [frz] at h
      split at h
      · rw [Option.map_eq_some_iff] at h; obtain ⟨z, _, rfl⟩ := h; cases hw
      · cases h
    | ptr k g o =>
      simp only [frz] at h
      split at h
      · rw [Option.map_eq_some_iff] at h; obtain ⟨z, _, rfl⟩ := h; cases hw
      · cases h
    | pe k g i o sz =>
      simp only [frz] at h
      repeat' split at h
      all_goals first
        | (cases h; done)
        | (rw [Option.map_eq_some_iff] at h; obtain ⟨z, _, rfl⟩ := h; cases hw)

theorem fl1_frz_self {get : Ref → Option AO} {n : Nat} {v : AV} (h : fl1 v = true) : frz get (n + 1) v = some v := by
  cases v <;> first | rfl | cases h
theorem fl1_mapO_self {get : Ref → Option AO} {n : Nat} : ∀ {l : List AV}, l.all fl1 = true → mapO (frz get (n + 1)) l = some l
  | [], _ => rfl
  | x :: l, h => by
    simp only [List.all_cons, Bool.and_eq_true] at h
    simp only [mapO, fl1_frz_self h.1, fl1_mapO_self h.2, Option.map_some]
theorem frz_agg {get : Ref → Option AO} {n : Nat} {cs : List AV} : frz get (n + 1) (.agg cs) = (mapO (frz get n) cs).map .agg := by simp only [frz]
theorem frz_tup {get : Ref → Option AO} {n : Nat} {cs : List AV} : frz get (n + 1) (.tup cs) = (mapO (frz get n) cs).map .tup := by simp only [frz]
theorem frz_fn {get : Ref → Option AO} {n : Nat} {f : FuncId} {cs : List AV} : frz get (n + 1) (.fn f cs) = (mapO (frz get n) cs).map (.fn f) := by simp only [frz]
theorem frz_rs {get : Ref → Option AO} {n k g i0 len sz : Nat} : frz get (n + 1) (.rs k g i0 len sz) = match rowsOf get (.rs k g i0 len sz) with
      | some rows => (mapO (mapO (frz get n)) rows).map (.vs false sz)
      | none => none := by simp only [frz]; rfl
theorem frz_ptr {get : Ref → Option AO} {n k g o : Nat} : frz get (n + 1) (.ptr k g o) = match get (.h k g) with
      | some (.cells cs) => (mapO (frz get n) (cs.drop o)).map .vp
      | _ => none := by simp only [frz]; rfl
@[simp] theorem frz_b {get : Ref → Option AO} {n : Nat} {x : Bool} : frz get (n + 1) (.b x) = some (.b x) := rfl
@[simp] theorem frz_i {get : Ref → Option AO} {n : Nat} {k : IntKind} {x : Int} : frz get (n + 1) (.i k x) = some (.i k x) := rfl
@[simp] theorem frz_s {get : Ref → Option AO} {n : Nat} {x : ByteArray} : frz get (n + 1) (.s x) = some (.s x) := rfl
@[simp] theorem frz_np {get : Ref → Option AO} {n : Nat} : frz get (n + 1) .np = some .np := rfl
@[simp] theorem frz_nfn {get : Ref → Option AO} {n : Nat} : frz get (n + 1) .nfn = some .nfn := rfl
@[simp] theorem frz_vs {get : Ref → Option AO} {n : Nat} {a : Bool} {c : Nat} {d : List (List AV)} : frz get (n + 1) (.vs a c d) = some (.vs a c d) := rfl
@[simp] theorem frz_vp {get : Ref → Option AO} {n : Nat} {c : List AV} : frz get (n + 1) (.vp c) = some (.vp c) := rfl
attribute [simp] frz_agg frz_tup frz_fn frz_rs frz_ptr
theorem fl_frz_self {get : Ref → Option AO} {v : AV} (h : fl v = true) : frz get frzDepth v = some v := by
  unfold frzDepth
  cases v with
  | agg cs => rw [frz_agg, fl1_mapO_self h]; rfl
  | tup cs => rw [frz_tup, fl1_mapO_self h]; rfl
  | _ => first | rfl | cases h

/-- What is seen of a frozen call in a region. -/
def pCall (call : CallT) (st : St) (nx : Nat) (dst : Option Nat) (g : FuncId) (args : List AV) : Option (Eff × Nat) :=
  if args.all rf = true then (match pR call g args with
        | some r => some (⟨dst, r, [], none, some []⟩, nx)
        | none => none)
      else match mapO (frz st.get frzDepth) args with
        | some args' => (match pR call g args' with
          | some r => if fl r = true then some (⟨dst, r, [], none, none⟩, nx) else none
          | none => none)
        | none => none
/-- What is seen of a call that works on the heap. -/
def nCall (call : CallT) (st : St) (nx : Nat) (dst : Option Nat) (g : FuncId) (args : List AV) : Option (Eff × Nat) :=
  if args.all rf = true then (match call g args [] nx with
      | some (r, hp, nx') => some (⟨dst, r, hp.reverse.map (fun x => (.h x.1 x.2.1, some x.2.2)), none, some []⟩, nx')
      | none => none)
    else if args.all AV.mv = true then (match call g args st.hp nx with
      | some (r, hp, nx') => some (⟨dst, r, [], some (st.hp, hp), none⟩, nx')
      | none => none)
    else none
theorem goCallP_n {C : Cfg} {call : CallT} {st : St} {nx : Nat} {dst : Option Nat} {g : FuncId} {args : List AV} (hi : C.intr g = none) : goCallP C false call st nx dst g args = nCall call st nx dst g args := by
  unfold goCallP nCall
  simp only [hi, Bool.false_eq_true, if_false]
  rfl
theorem goCallP_eq {C : Cfg} {call : CallT} {st : St} {nx : Nat} {dst : Option Nat} {g : FuncId} {args : List AV} (hi : C.intr g = none) : goCallP C true call st nx dst g args = pCall call st nx dst g args := by
  unfold pCall
  unfold goCallP
  simp only [hi, if_true]
  by_cases ha : args.all rf = true
  · simp only [ha, if_true]
    unfold pR
    cases call g args [] 0 with
    | none => rfl
    | some x =>
      obtain ⟨r, h, n⟩ := x
      simp only
      cases frz (hget h) frzDepth r <;> rfl
  · simp only [ha]
    simp only [Bool.false_eq_true, if_false]
    cases mapO (frz st.get frzDepth) args with
    | none => rfl
    | some args' =>
      simp only
      unfold pR
      cases call g args' [] 0 with
      | none => rfl
      | some x =>
        obtain ⟨r, h, n⟩ := x
        simp only
        by_cases hr : fl r = true
        · simp only [hr, if_true, fl_frz_self hr]
        · cases hz : frz (hget h) frzDepth r with
          | none => simp only [if_neg hr]
          | some y =>
            have hy : ¬ fl y = true := fun hy => hr (by rw [fl_frz hz hy]; exact hy)
            simp only [if_neg hr, if_neg hy]

/-- A call of a function that is told by what its arguments are: that, or a call on the heap. -/
def pnCall (call : CallT) (st : St) (nx : Nat) (dst : Option Nat) (g : FuncId) (args : List AV) : Option (Eff × Nat) := match pCall call st nx dst g args with
  | some x => some x
  | none => nCall call st nx dst g args
/-- A call with what its arguments are now, what it makes laid beside; else on the heap. -/
def fCall (call : CallT) (st : St) (nx : Nat) (dst : Option Nat) (g : FuncId) (args : List AV) : Option (Eff × Nat) := match mapO (frz st.get frzDepth) args with
  | some args' => (match call g args' [] nx with
    | some (r, hp, nx') => if (nov r && hp.all fun x => novO x.2.2) = true then some (⟨dst, r, hp.reverse.map (fun x => (.h x.1 x.2.1, some x.2.2)), none, none⟩, nx') else nCall call st nx dst g args
    | none => nCall call st nx dst g args)
  | none => nCall call st nx dst g args
theorem goCall_f {C : Cfg} {call : CallT} {st : St} {nx : Nat} {dst : Option Nat} {g : FuncId} {args : List AV} (hi : C.intr g = none) (hh : C.heap g = false) (hf : C.fresh g = true) : goCall C call st nx dst g args = fCall call st nx dst g args := by
  unfold goCall fCall goCallF
  simp only [hh, hf, hi, Option.isNone_none, Bool.and_true, if_true, Bool.false_eq_true, if_false]
  rw [goCallP_n hi]
  cases mapO (frz st.get frzDepth) args with
  | none => rfl
  | some args' =>
    simp only
    cases call g args' [] nx with
    | none => rfl
    | some x =>
      obtain ⟨r, h, n⟩ := x
      simp only
      by_cases hq : (nov r && h.all fun x => novO x.2.2) = true
      · simp only [if_pos hq]
      · simp only [if_neg hq]
/-- A call that leaves the heap as it is; else on the heap. -/
noncomputable def rCall (call : CallT) (st : St) (nx : Nat) (dst : Option Nat) (g : FuncId) (args : List AV) : Option (Eff × Nat) := match goCallR call st nx dst g args with
  | some x => some x
  | none => nCall call st nx dst g args
theorem goCall_r {C : Cfg} {call : CallT} {st : St} {nx : Nat} {dst : Option Nat} {g : FuncId} {args : List AV} (hi : C.intr g = none) (hf : C.fresh g = false) (hr : C.ro g = true) (hh : C.heap g = false) : goCall C call st nx dst g args = rCall call st nx dst g args := by
  unfold goCall rCall
  simp only [hh, hf, hr, hi, Option.isNone_none, Bool.and_true, Bool.false_eq_true, if_false, if_true]
  rw [goCallP_n hi]
  cases goCallR call st nx dst g args <;> rfl
theorem goCall_n {C : Cfg} {call : CallT} {st : St} {nx : Nat} {dst : Option Nat} {g : FuncId} {args : List AV} (hi : C.intr g = none) (hp : C.pure g = false) (hf : C.fresh g = false) (hr : C.ro g = false) (hh : C.heap g = false) : goCall C call st nx dst g args = nCall call st nx dst g args := by
  unfold goCall
  rw [hh, hp, hf, hr, goCallP_n hi]
  simp only [Bool.false_and, Bool.false_eq_true, if_false]
  cases nCall call st nx dst g args <;> rfl
theorem goCall_eq {C : Cfg} {call : CallT} {st : St} {nx : Nat} {dst : Option Nat} {g : FuncId} {args : List AV} (hi : C.intr g = none) (hp : C.pure g = true) (hf : C.fresh g = false) (hr : C.ro g = false) (hh : C.heap g = false) : goCall C call st nx dst g args = pnCall call st nx dst g args := by
  unfold goCall pnCall
  rw [hh, hp, hf, hr, goCallP_eq hi, goCallP_n hi]
  simp only [Bool.false_and, Bool.false_eq_true, if_false, if_true]
  cases pCall call st nx dst g args <;> rfl
theorem goCall_i {C : Cfg} {call : CallT} {st : St} {nx : Nat} {dst : Option Nat} {g : FuncId} {args : List AV} {h : List AV → Option AV} {r : AV} (hi : C.intr g = some h) (hr : h args = some r) : goCall C call st nx dst g args = some (⟨dst, r, [], none, some []⟩, nx) := by
  unfold goCall goCallP
  rw [hi]
  simp only [hr, Option.map_some, Option.isNone_some, Bool.and_false, Bool.false_eq_true, if_false]

theorem goCall_h {C : Cfg} {call : CallT} {st : St} {nx : Nat} {dst : Option Nat} {g : FuncId} {args : List AV} (hi : C.intr g = none) (hh : C.heap g = true) : goCall C call st nx dst g args = goCallH call st nx dst g args := by
  unfold goCall
  rw [hh, hi]
  rfl

/-- A call at a depth, of a function that has no law of its own. -/
theorem callA_at {C : Cfg} {K n : Nat} {f : FuncId} (h : C.hint f = none) : callA C K (n + 1) f = runA C (callA C K n) K f := by
  funext args hp nx
  simp only [callA, h]
theorem callA_hint {C : Cfg} {K n : Nat} {f : FuncId} {g : List AV → Hp → Nat → Option (AV × Hp × Nat)} (h : C.hint f = some g) : callA C K (n + 1) f = g := by
  funext args hp nx
  simp only [callA, h]
theorem pR_at {C : Cfg} {K n : Nat} {f : FuncId} {args : List AV} (h : C.hint f = none) : pR (callA C K (n + 1)) f args = pR (runA C (callA C K n) K) f args := by
  unfold pR
  rw [callA_at h]

theorem pR_of {C : Cfg} {call : CallT} {k : Nat} {f : FuncId} {args : List AV} {r : AV} (h : Ends C call k f args [] 0 fun r' _ _ => r' = r) (hr : fl r = true) : pR (runA C call k) f args = some r := by
  obtain ⟨r', hp', nx', h1, rfl⟩ := h
  unfold pR
  rw [h1]
  exact fl_frz_self hr

end Ab
end Go.Proofs.YtidoflgcblglbaaDoor

/-
  DERIVED. The interpreter's definitions as simp laws.
  Conditions: none of a program's.
-/
namespace Go.Proofs.YtidoflgcblglbaaDoor
namespace Ab
attribute [simp] opA guardA stepA ev lk up St.app St.wrs ret indexAddrA loadA storeA binA intBin ldA stA restrict rdA ofC ofC0 Op.operands aggD builtinA St.wr1 St.get lkg unA frzDepth rf mapO hget fl resA one nextA sliceA cutEnds strBin indexA enterA buildA fillA fCall sameA findA keyD mapOf lookupA updateA deleteA
/-- What the kernel alone looks at. -/
def kr (b : Bool) : Bool := b
theorem kr_intro {b : Bool} (h : b = true) : kr b = true := h
theorem stat_t {ops : Array Oper} {bef : List (List Nat)} (h : kr (statOk ops bef) = true) : statOk ops bef = true := h
theorem dyn_t {bef : List (List Nat)} {es : List Eff} (h : kr (dynOk bef es) = true) : dynOk bef es = true := h
@[simp] theorem rf1_b (x : Bool) : rf1 (.b x) = true := rfl
@[simp] theorem fl1_b (x : Bool) : fl1 (.b x) = true := rfl
@[simp] theorem rf1_i (k : IntKind) (x : Int) : rf1 (.i k x) = true := rfl
@[simp] theorem fl1_i (k : IntKind) (x : Int) : fl1 (.i k x) = true := rfl
@[simp] theorem rf1_s (x : ByteArray) : rf1 (.s x) = true := rfl
@[simp] theorem fl1_s (x : ByteArray) : fl1 (.s x) = true := rfl
@[simp] theorem rf1_np  : rf1 (.np) = true := rfl
@[simp] theorem fl1_np  : fl1 (.np) = false := rfl
@[simp] theorem rf1_nfn  : rf1 (.nfn) = true := rfl
@[simp] theorem fl1_nfn  : fl1 (.nfn) = false := rfl
@[simp] theorem rf1_vs (a : Bool) (n : Nat) (r : List (List AV)) : rf1 (.vs a n r) = true := rfl
@[simp] theorem fl1_vs (a : Bool) (n : Nat) (r : List (List AV)) : fl1 (.vs a n r) = false := rfl
@[simp] theorem rf1_vp (c : List AV) : rf1 (.vp c) = true := rfl
@[simp] theorem fl1_vp (c : List AV) : fl1 (.vp c) = false := rfl
@[simp] theorem rf1_rs (k g i n z : Nat) : rf1 (.rs k g i n z) = false := rfl
@[simp] theorem fl1_rs (k g i n z : Nat) : fl1 (.rs k g i n z) = false := rfl
@[simp] theorem rf1_ptr (k g o : Nat) : rf1 (.ptr k g o) = false := rfl
@[simp] theorem fl1_ptr (k g o : Nat) : fl1 (.ptr k g o) = false := rfl
@[simp] theorem rf1_pe (k g i o z : Nat) : rf1 (.pe k g i o z) = false := rfl
@[simp] theorem fl1_pe (k g i o z : Nat) : fl1 (.pe k g i o z) = false := rfl
@[simp] theorem rf1_lp (k g o : Nat) : rf1 (.lp k g o) = false := rfl
@[simp] theorem fl1_lp (k g o : Nat) : fl1 (.lp k g o) = false := rfl
@[simp] theorem rf1_agg (c : List AV) : rf1 (.agg c) = false := rfl
@[simp] theorem fl1_agg (c : List AV) : fl1 (.agg c) = false := rfl
@[simp] theorem rf1_tup (c : List AV) : rf1 (.tup c) = false := rfl
@[simp] theorem fl1_tup (c : List AV) : fl1 (.tup c) = false := rfl
@[simp] theorem rf1_mp0  : rf1 (.mp none) = true := rfl
@[simp] theorem fl1_mp0  : fl1 (.mp none) = false := rfl
@[simp] theorem rf1_mp1 (k : Nat) : rf1 (.mp (some k)) = false := rfl
@[simp] theorem fl1_mp1 (k : Nat) : fl1 (.mp (some k)) = false := rfl
@[simp] theorem rf1_fn (f : FuncId) (c : List AV) : rf1 (.fn f c) = c.isEmpty := rfl
@[simp] theorem fl1_fn (f : FuncId) (c : List AV) : fl1 (.fn f c) = false := rfl
@[simp] theorem nov1_b (x : Bool) : nov1 (.b x) = true := rfl
@[simp] theorem nov1_i (k : IntKind) (x : Int) : nov1 (.i k x) = true := rfl
@[simp] theorem nov1_s (x : ByteArray) : nov1 (.s x) = true := rfl
@[simp] theorem nov1_np : nov1 .np = true := rfl
@[simp] theorem nov1_rs (k g i n z : Nat) : nov1 (.rs k g i n z) = true := rfl
@[simp] theorem nov1_ptr (k g o : Nat) : nov1 (.ptr k g o) = true := rfl
@[simp] theorem nov1_pe (k g i o z : Nat) : nov1 (.pe k g i o z) = true := rfl
@[simp] theorem nov1_mp (o : Option Nat) : nov1 (.mp o) = true := rfl
@[simp] theorem nov1_vs (a : Bool) (n : Nat) (r : List (List AV)) : nov1 (.vs a n r) = r.isEmpty := rfl
@[simp] theorem nov_b (x : Bool) : nov (.b x) = true := rfl
@[simp] theorem nov_i (k : IntKind) (x : Int) : nov (.i k x) = true := rfl
@[simp] theorem nov_s (x : ByteArray) : nov (.s x) = true := rfl
@[simp] theorem nov_np : nov .np = true := rfl
@[simp] theorem nov_rs (k g i n z : Nat) : nov (.rs k g i n z) = true := rfl
@[simp] theorem nov_ptr (k g o : Nat) : nov (.ptr k g o) = true := rfl
@[simp] theorem nov_mp (o : Option Nat) : nov (.mp o) = true := rfl
@[simp] theorem nov_vs (a : Bool) (n : Nat) (r : List (List AV)) : nov (.vs a n r) = r.isEmpty := rfl
@[simp] theorem nov_agg (c : List AV) : nov (.agg c) = c.all nov1 := rfl
@[simp] theorem nov_tup (c : List AV) : nov (.tup c) = c.all nov1 := rfl
@[simp] theorem novO_cells (c : List AV) : novO (.cells c) = c.all nov1 := rfl
@[simp] theorem novO_arr (z : Nat) (r : List (List AV)) : novO (.arr z r) = r.all (·.all nov1) := rfl
end Ab
end Go.Proofs.YtidoflgcblglbaaDoor

/-
  DERIVED. A REGION STEP BY STEP, its calls by what they answer: simp stands still at a call on the heap.
  Conditions: none of a program's.
-/
namespace Go.Proofs.YtidoflgcblglbaaDoor
namespace Ab

/-- A call is there, and it answers. -/
def cW (r : Option (AV × Hp × Nat)) (Q : AV → Hp → Nat → Prop) : Prop := ∃ a h n, r = some (a, h, n) ∧ Q a h n
@[congr] theorem cW_congr {r r' : Option (AV × Hp × Nat)} {Q : AV → Hp → Nat → Prop} (h : r = r') : cW r Q = cW r' Q := by rw [h]
@[simp] theorem cW_some {a : AV} {h : Hp} {n : Nat} {Q : AV → Hp → Nat → Prop} : cW (some (a, h, n)) Q = Q a h n := by
  simp only [cW, Option.some.injEq, Prod.mk.injEq, eq_iff_iff]
  exact ⟨fun ⟨_, _, _, ⟨e1, e2, e3⟩, hq⟩ => by subst e1 e2 e3; exact hq, fun hq => ⟨a, h, n, ⟨rfl, rfl, rfl⟩, hq⟩⟩

/-- An operation is done, and what it did answers. -/
def oW (r : Option (Eff × Nat)) (Q : Eff → Nat → Prop) : Prop := ∃ e n, r = some (e, n) ∧ Q e n
@[congr] theorem oW_congr {r r' : Option (Eff × Nat)} {Q : Eff → Nat → Prop} (h : r = r') : oW r Q = oW r' Q := by rw [h]
@[simp] theorem oW_some {e : Eff} {n : Nat} {Q : Eff → Nat → Prop} : oW (some (e, n)) Q = Q e n := by
  simp only [oW, Option.some.injEq, Prod.mk.injEq, eq_iff_iff]
  exact ⟨fun ⟨_, _, ⟨e1, e2⟩, hq⟩ => by subst e1 e2; exact hq, fun hq => ⟨e, n, ⟨rfl, rfl⟩, hq⟩⟩
@[simp] theorem oW_none {Q : Eff → Nat → Prop} : oW none Q = False := by simp [oW]
@[simp] theorem oW_ite {p : Prop} [Decidable p] {a b : Option (Eff × Nat)} {Q : Eff → Nat → Prop} : oW (if p then a else b) Q = if p then oW a Q else oW b Q := by
  by_cases h : p <;> simp [h]

/-- A call's effect, by how it was called. -/
def besideE (dst : Option Nat) (Q : Eff → Nat → Prop) (r : AV) (hp : Hp) (n : Nat) : Prop := Q ⟨dst, r, hp.reverse.map (fun x => (.h x.1 x.2.1, some x.2.2)), none, some []⟩ n
def heapE (dst : Option Nat) (hp0 : Hp) (Q : Eff → Nat → Prop) (r : AV) (hp : Hp) (n : Nat) : Prop := Q ⟨dst, r, [], some (hp0, hp), none⟩ n
def roE (dst : Option Nat) (hp0 : Hp) (Q : Eff → Nat → Prop) (r : AV) (hp : Hp) (n : Nat) : Prop := (hp = hp0 ∧ Q ⟨dst, r, [], none, none⟩ n) ∨ (¬ hp = hp0 ∧ Q ⟨dst, r, [], some (hp0, hp), none⟩ n)
@[simp] theorem besideE_eq {dst : Option Nat} {Q : Eff → Nat → Prop} {r : AV} {hp : Hp} {n : Nat} : besideE dst Q r hp n = Q ⟨dst, r, hp.reverse.map (fun x => (.h x.1 x.2.1, some x.2.2)), none, some []⟩ n := rfl
@[simp] theorem heapE_eq {dst : Option Nat} {hp0 : Hp} {Q : Eff → Nat → Prop} {r : AV} {hp : Hp} {n : Nat} : heapE dst hp0 Q r hp n = Q ⟨dst, r, [], some (hp0, hp), none⟩ n := rfl
@[simp] theorem roE_eq {dst : Option Nat} {Q : Eff → Nat → Prop} {r : AV} {hp : Hp} {n : Nat} : roE dst hp Q r hp n = Q ⟨dst, r, [], none, none⟩ n := by simp [roE]

theorem oW_n {call : CallT} {st : St} {nx : Nat} {dst : Option Nat} {g : FuncId} {args : List AV} {Q : Eff → Nat → Prop} : oW (nCall call st nx dst g args) Q =
    if args.all rf = true then cW (call g args [] nx) (besideE dst Q) else if args.all AV.mv = true then cW (call g args st.hp nx) (heapE dst st.hp Q) else False := by
  unfold nCall
  split
  · cases call g args [] nx with
    | none => simp [cW]
    | some x => obtain ⟨r, h, n⟩ := x; simp
  · split
    · cases call g args st.hp nx with
      | none => simp [cW]
      | some x => obtain ⟨r, h, n⟩ := x; simp
    · simp
theorem oW_h {call : CallT} {st : St} {nx : Nat} {dst : Option Nat} {g : FuncId} {args : List AV} {Q : Eff → Nat → Prop} : oW (goCallH call st nx dst g args) Q =
    if args.all AV.mv = true then cW (call g args st.hp nx) (heapE dst st.hp Q) else False := by
  unfold goCallH
  split
  · cases call g args st.hp nx with
    | none => simp [cW]
    | some x => obtain ⟨r, h, n⟩ := x; simp
  · simp
theorem oW_r {call : CallT} {st : St} {nx : Nat} {dst : Option Nat} {g : FuncId} {args : List AV} {Q : Eff → Nat → Prop} : oW (rCall call st nx dst g args) Q =
    if args.all rf = true then cW (call g args [] nx) (besideE dst Q) else if args.all AV.mv = true then cW (call g args st.hp nx) (roE dst st.hp Q) else False := by
  unfold rCall goCallR
  by_cases h1 : args.all rf = true
  · simp only [if_pos h1]
    rw [oW_n, if_pos h1]
  · simp only [if_neg h1]
    by_cases h2 : args.all AV.mv = true
    · simp only [if_pos h2]
      cases hc : call g args st.hp nx with
      | none =>
        simp only
        rw [oW_n, if_neg h1, if_pos h2, hc]
        simp [cW]
      | some x =>
        obtain ⟨r, h, n⟩ := x
        by_cases h3 : h = st.hp
        · simp [h3, roE]
        · simp only [if_neg h3]
          rw [oW_n, if_neg h1, if_pos h2, hc]
          simp [roE, h3]
    · simp only [if_neg h2]
      rw [oW_n, if_neg h1, if_neg h2]

/-- A frozen call's answer, or a call on the heap. -/
def pnK (x : Option AV) (A : Prop) (B : AV → Prop) : Prop := match x with
  | some r => B r
  | none => A
@[congr] theorem pnK_congr {x x' : Option AV} {A : Prop} {B : AV → Prop} (h : x = x') : pnK x A B = pnK x' A B := by rw [h]
@[simp] theorem pnK_some {r : AV} {A : Prop} {B : AV → Prop} : pnK (some r) A B = B r := rfl
def pnE (dst : Option Nat) (nx : Nat) (Q : Eff → Nat → Prop) (r : AV) : Prop := Q ⟨dst, r, [], none, some []⟩ nx
@[simp] theorem pnE_eq {dst : Option Nat} {nx : Nat} {Q : Eff → Nat → Prop} {r : AV} : pnE dst nx Q r = Q ⟨dst, r, [], none, some []⟩ nx := rfl
def pnN (call : CallT) (st : St) (nx : Nat) (dst : Option Nat) (g : FuncId) (args : List AV) (Q : Eff → Nat → Prop) : Prop := oW (nCall call st nx dst g args) Q
theorem oW_pn {call : CallT} {st : St} {nx : Nat} {dst : Option Nat} {g : FuncId} {args : List AV} {Q : Eff → Nat → Prop} (h : args.all rf = true) : oW (pnCall call st nx dst g args) Q =
    pnK (pR call g args) (pnN call st nx dst g args Q) (pnE dst nx Q) := by
  unfold pnCall pCall
  simp only [if_pos h]
  cases pR call g args with
  | none => simp [pnK, pnN]
  | some r => simp
theorem rf1_frz {get : Ref → Option AO} (n : Nat) {v : AV} (h : rf1 v = true) : frz get (n + 1) v = some v := by
  cases v with
  | mp k => cases k with
    | none => rfl
    | some k => cases h
  | fn f cs =>
    have : cs = [] := by simpa [rf1] using h
    subst this
    simp [frz, mapO]
  | _ => first | rfl | cases h
theorem rf1_mapO {get : Ref → Option AO} (n : Nat) : ∀ {l : List AV}, l.all rf1 = true → mapO (frz get (n + 1)) l = some l
  | [], _ => rfl
  | x :: l, h => by
    simp only [List.all_cons, Bool.and_eq_true] at h
    simp only [mapO, rf1_frz n h.1, rf1_mapO n h.2, Option.map_some]
theorem rf_frz {get : Ref → Option AO} (n : Nat) {v : AV} (h : rf v = true) : frz get (n + 2) v = some v := by
  by_cases ha : ∃ cs, v = .agg cs
  · obtain ⟨cs, rfl⟩ := ha
    rw [frz_agg, rf1_mapO n h]
    rfl
  · have hx1 : rf1 v = true := by
      unfold rf at h
      split at h
      · rename_i cs; exact absurd ⟨cs, rfl⟩ ha
      · exact h
    exact rf1_frz (n + 1) hx1
theorem rf_mapO {get : Ref → Option AO} (n : Nat) : ∀ {l : List AV}, l.all rf = true → mapO (frz get (n + 2)) l = some l
  | [], _ => rfl
  | x :: l, h => by
    simp only [List.all_cons, Bool.and_eq_true] at h
    simp only [mapO, rf_frz n h.1, rf_mapO n h.2, Option.map_some]
/-- A frozen call, whether its arguments lead to objects or not. -/
theorem pn_use {call : CallT} {st : St} {nx : Nat} {dst : Option Nat} {g : FuncId} {args args' : List AV} {r : AV} {Q : Eff → Nat → Prop} (hf : mapO (frz st.get frzDepth) args = some args') (hp : pR call g args' = some r) (hr : fl r = true)
    (hq : ∀ rd, Q ⟨dst, r, [], none, rd⟩ nx) : oW (pnCall call st nx dst g args) Q := by
  by_cases h : args.all rf = true
  · rw [oW_pn h]
    have : args' = args := by
      have := rf_mapO (get := st.get) 10 h
      unfold frzDepth at hf
      rw [this] at hf
      cases hf
      rfl
    subst this
    rw [hp]
    exact hq _
  · unfold pnCall pCall
    simp only [if_neg h, hf, hp, if_pos hr]
    rw [oW_some]
    exact hq _

/- The binding edges through all between, each place once. -/
def addN (l : List Nat) (x : Nat) : List Nat := if l.contains x then l else x :: l
def befD (ops : List Oper) : List (List Nat) :=
  ops.foldl (fun acc o => acc ++ [o.after.toList.foldl (fun l e => if Region.binds .any e then (e.on :: acc.getD e.on []).foldl addN l else l) []]) []
theorem mem_addN {l : List Nat} {x y : Nat} : y ∈ addN l x ↔ y = x ∨ y ∈ l := by
  unfold addN
  by_cases h : l.contains x = true
  · rw [if_pos h]
    exact ⟨.inr, fun e => e.elim (fun e => e ▸ by simpa using h) id⟩
  · rw [if_neg h, List.mem_cons]
theorem mem_addNs {y : Nat} : ∀ {a l : List Nat}, y ∈ a.foldl addN l ↔ y ∈ a ∨ y ∈ l
  | [], l => by simp
  | x :: a, l => by
    rw [List.foldl_cons, mem_addNs, mem_addN, List.mem_cons]
    constructor
    · rintro (h | h | h)
      · exact .inl (.inr h)
      · exact .inl (.inl h)
      · exact .inr h
    · rintro ((h | h) | h)
      · exact .inr (.inl h)
      · exact .inl h
      · exact .inr (.inr h)
theorem bef_same (ops : List Oper) : (befOf ops).length = (befD ops).length ∧ ∀ j y, y ∈ (befOf ops).getD j [] ↔ y ∈ (befD ops).getD j [] := by
  unfold befOf befD
  suffices ∀ (ops : List Oper) (a b : List (List Nat)), a.length = b.length → (∀ j y, y ∈ a.getD j [] ↔ y ∈ b.getD j []) →
      (ops.foldl (fun acc o => acc ++ [o.after.toList.flatMap fun e => if Region.binds .any e then e.on :: acc.getD e.on [] else []]) a).length =
        (ops.foldl (fun acc o => acc ++ [o.after.toList.foldl (fun l e => if Region.binds .any e then (e.on :: acc.getD e.on []).foldl addN l else l) []]) b).length ∧
      ∀ j y, y ∈ (ops.foldl (fun acc o => acc ++ [o.after.toList.flatMap fun e => if Region.binds .any e then e.on :: acc.getD e.on [] else []]) a).getD j [] ↔
        y ∈ (ops.foldl (fun acc o => acc ++ [o.after.toList.foldl (fun l e => if Region.binds .any e then (e.on :: acc.getD e.on []).foldl addN l else l) []]) b).getD j [] from
    this ops [] [] rfl fun _ _ => Iff.rfl
  intro ops
  induction ops with
  | nil => intro a b h1 h2; exact ⟨h1, h2⟩
  | cons o ops ih =>
    intro a b h1 h2
    rw [List.foldl_cons, List.foldl_cons]
    refine ih _ _ (by simp [h1]) fun j y => ?_
    rw [List.getD_eq_getElem?_getD, List.getD_eq_getElem?_getD]
    by_cases hj : j < a.length
    · rw [List.getElem?_append_left hj, List.getElem?_append_left (by omega), ← List.getD_eq_getElem?_getD, ← List.getD_eq_getElem?_getD]
      exact h2 j y
    · rw [List.getElem?_append_right (by omega), List.getElem?_append_right (by omega), h1]
      by_cases hz : j - b.length = 0
      · rw [hz]
        simp only [List.getElem?_cons_zero, Option.getD_some]
        have inner : ∀ (es : List Edge) (l : List Nat), y ∈ es.foldl (fun l e => if Region.binds .any e then (e.on :: b.getD e.on []).foldl addN l else l) l ↔ (y ∈ es.flatMap fun e => if Region.binds .any e then e.on :: a.getD e.on [] else []) ∨ y ∈ l := by
          intro es
          induction es with
          | nil => intro l; simp
          | cons e es ihe =>
            intro l
            rw [List.foldl_cons, ihe, List.flatMap_cons, List.mem_append]
            by_cases hb : Region.binds .any e = true
            · simp only [hb, if_true]
              rw [mem_addNs, List.mem_cons, List.mem_cons, h2]
              constructor
              · rintro (h | h | h)
                · exact .inl (.inr h)
                · exact .inl (.inl h)
                · exact .inr h
              · rintro ((h | h) | h)
                · exact .inr (.inl h)
                · exact .inl h
                · exact .inr (.inr h)
            · simp only [hb, Bool.false_eq_true, if_false, List.not_mem_nil, false_or]
        have := inner o.after.toList []
        simp only [List.not_mem_nil, or_false] at this
        exact this.symm
      · rw [List.getElem?_eq_none (by simp; omega), List.getElem?_eq_none (by simp; omega)]
theorem bef_contains (ops : List Oper) (j i : Nat) : ((befOf ops).getD j []).contains i = ((befD ops).getD j []).contains i := by
  have := (bef_same ops).2 j i
  rw [Bool.eq_iff_iff]
  simpa using this
theorem stat_fast {ops : Array Oper} (h : statOk ops (befD ops.toList) = true) : statOk ops (befOf ops.toList) = true := by
  unfold statOk at h ⊢
  simp only [bef_contains]
  exact h
theorem dyn_fast {ops : Array Oper} {es : List Eff} (h : dynOk (befD ops.toList) es = true) : dynOk (befOf ops.toList) es = true := by
  unfold dynOk at h ⊢
  simp only [bef_contains]
  exact h

/-- Does an effect write nothing? -/
def quietE (e : Eff) : Bool := e.wr.isEmpty && e.hp.isNone
theorem quiet_clear {e f : Eff} (h : quietE e = true) : e.clear f = true := by
  unfold quietE at h
  simp only [Bool.and_eq_true, List.isEmpty_iff, Option.isNone_iff_eq_none] at h
  unfold Eff.clear Eff.wkeys
  rw [h.2, h.1]
  rfl
/-- Where nothing is written every order does. -/
theorem dyn_quiet {bef : List (List Nat)} {es : List Eff} (h : es.all quietE = true) : dynOk bef es = true := by
  unfold dynOk pairsOk
  refine List.all_eq_true.2 fun j hj => List.all_eq_true.2 fun i hi => ?_
  rw [List.mem_range] at hj hi
  have h1 : es[i]? = some es[i] := List.getElem?_eq_getElem (by omega)
  have h2 : es[j]? = some es[j] := List.getElem?_eq_getElem (by omega)
  simp only [h1, h2]
  have q1 := List.all_eq_true.1 h es[i] (List.getElem_mem _)
  have q2 := List.all_eq_true.1 h es[j] (List.getElem_mem _)
  rw [Bool.or_eq_true]
  exact .inr (by rw [Eff.apart, quiet_clear q1, quiet_clear q2]; rfl)

section
variable (C : Cfg) (call : CallT) (k : Nat) (f : FuncId)

/-- The operations that are left of a region. -/
def opsW (ops : Array Oper) (base : Nat) (l : List Oper) (i : Nat) (st : St) (nx : Nat) (acc : List Eff) (Q : St → Nat → List Eff → Prop) : Prop := ∃ st' nx' es, opsA C call f ops base l i st nx acc = some (st', nx', es) ∧ Q st' nx' es
@[congr] theorem opsW_congr {ops : Array Oper} {base i : Nat} {l : List Oper} {st st' : St} {nx nx' : Nat} {acc acc' : List Eff} {Q : St → Nat → List Eff → Prop} (h1 : st = st') (h2 : nx = nx') (h3 : acc = acc') :
    opsW C call f ops base l i st nx acc Q = opsW C call f ops base l i st' nx' acc' Q := by rw [h1, h2, h3]
theorem opsW_nil {ops : Array Oper} {base i : Nat} {st : St} {nx : Nat} {acc : List Eff} {Q : St → Nat → List Eff → Prop} : opsW C call f ops base [] i st nx acc Q = Q st nx acc.reverse := by
  simp only [opsW, opsA, Option.some.injEq, Prod.mk.injEq, eq_iff_iff]
  exact ⟨fun ⟨_, _, _, ⟨e1, e2, e3⟩, hq⟩ => by subst e1 e2 e3; exact hq, fun hq => ⟨_, _, _, ⟨rfl, rfl, rfl⟩, hq⟩⟩
/-- Behind an operation. -/
def opsK (ops : Array Oper) (base : Nat) (l : List Oper) (i : Nat) (st : St) (acc : List Eff) (Q : St → Nat → List Eff → Prop) (e : Eff) (nx : Nat) : Prop := opsW C call f ops base l (i + 1) (st.app e) nx (e :: acc) Q
theorem opsK_eq {ops : Array Oper} {base i : Nat} {l : List Oper} {st : St} {nx : Nat} {acc : List Eff} {Q : St → Nat → List Eff → Prop} {e : Eff} : opsK C call f ops base l i st acc Q e nx = opsW C call f ops base l (i + 1) (st.app e) nx (e :: acc) Q := rfl
theorem opsW_cons {ops : Array Oper} {base i : Nat} {o : Oper} {l : List Oper} {st : St} {nx : Nat} {acc : List Eff} {Q : St → Nat → List Eff → Prop} :
    opsW C call f ops base (o :: l) i st nx acc Q = oW (opA C call f ops base st nx i o) (opsK C call f ops base l i st acc Q) := by
  unfold opsK
  simp only [opsW, opsA, oW]
  cases opA C call f ops base st nx i o with
  | none => simp
  | some x =>
    obtain ⟨e, n⟩ := x
    simp only [Option.some.injEq, Prod.mk.injEq, eq_iff_iff]
    exact ⟨fun h => ⟨e, n, ⟨rfl, rfl⟩, h⟩, fun ⟨_, _, ⟨e1, e2⟩, h⟩ => by subst e1 e2; exact h⟩

/-- Behind a region. -/
def regK (id : Nat) (ops : Array Oper) (draw : Bool) (Q : Ex × St → Prop) (st' : St) (nx : Nat) (es : List Eff) : Prop :=
  (!draw || (statOk ops (befOf ops.toList) && dynOk (befOf ops.toList) es)) = true ∧ Q (.normal, { env := restrict (C.live f id) st'.env, loc := restrict (C.live f id) st'.loc, hp := st'.hp, nx := nx })
theorem regK_no {id : Nat} {ops : Array Oper} {Q : Ex × St → Prop} {st' : St} {nx : Nat} {es : List Eff} : regK C f id ops false Q st' nx es = Q (.normal, { env := restrict (C.live f id) st'.env, loc := restrict (C.live f id) st'.loc, hp := st'.hp, nx := nx }) := by
  simp [regK]
/-- A drawn region's orders. -/
def drawn (ops : Array Oper) (es : List Eff) : Prop := statOk ops (befOf ops.toList) = true ∧ dynOk (befOf ops.toList) es = true
theorem regK_draw {id : Nat} {ops : Array Oper} {Q : Ex × St → Prop} {st' : St} {nx : Nat} {es : List Eff} : regK C f id ops true Q st' nx es = ((statOk ops (befOf ops.toList) = true ∧ dynOk (befOf ops.toList) es = true) ∧ Q (.normal, { env := restrict (C.live f id) st'.env, loc := restrict (C.live f id) st'.loc, hp := st'.hp, nx := nx })) := by
  simp [regK]

theorem wp_regW {ops : Array Oper} {draw : Bool} {id : Nat} {st : St} {Q : Ex × St → Prop} : wp (codeA C call k f (.region id ops draw) st) Q =
    opsW C call f ops st.nx ops.toList 0 st (st.nx + ops.size) [] (regK C f id ops draw Q) := by
  rw [wp_region]
  unfold opsW regionA mapN
  cases opsA C call f ops st.nx ops.toList 0 st (st.nx + ops.size) [] with
  | none => simp
  | some x =>
    obtain ⟨st', nx, es⟩ := x
    simp only [Option.some.injEq, Prod.mk.injEq, regK]
    by_cases h : (!draw || (statOk ops (befOf ops.toList) && dynOk (befOf ops.toList) es)) = true
    · simp only [if_pos h, Option.map_some, wp_some, eq_iff_iff]
      exact ⟨fun hq => ⟨_, _, _, ⟨rfl, rfl, rfl⟩, h, hq⟩, fun ⟨_, _, _, ⟨e1, e2, e3⟩, _, hq⟩ => by subst e1 e2 e3; exact hq⟩
    · simp only [if_neg h, Option.map_none, wp_none, eq_iff_iff, false_iff]
      rintro ⟨_, _, _, ⟨e1, e2, e3⟩, h2, _⟩
      subst e1 e2 e3
      exact h h2
end
end Ab
end Go.Proofs.YtidoflgcblglbaaDoor
