/-
  DERIVED. How a log of the program lies on the heap, beside its disk.
  Conditions: none of a program's.
-/
import Derived.Test.YtmbbnoipoifhhaaGreatDoorV0
import Derived.Test.YtmbbnoipoifhhaaGreatDoorG0
set_option linter.all false
set_option maxHeartbeats 4000000
namespace Go.Proofs.YtmbbnoipoifhhaaGreatDoor
namespace Ab
set_option maxRecDepth 100000
set_option linter.all false

/-- Of what kind an object is. -/
def aoK : AO → Nat
  | .cells l => 10 + l.length
  | .arr _ [] => 0
  | .arr _ ([.i _ _] :: _) => 1
  | .arr _ ([.ptr _ _ _] :: _) => 2
  | .arr _ ([.rs _ _ _ _ _] :: _) => 3
  | .arr _ ([.vs _ _ _] :: _) => 3
  | .arr _ _ => 4
  | .mp _ => 5
  | .sit _ _ => 6
theorem ne_of_kind {hp : Hp} {a b : Nat} {x y : Nat × AO} (ha : lk hp a = some x) (hb : lk hp b = some y) (h : aoK x.2 ≠ aoK y.2) : a ≠ b := ne_of_lk ha hb fun e => h (by rw [e])
theorem aoK_bytes (b : Bs) : aoK (.arr 1 (byteRows b)) = 0 ∨ aoK (.arr 1 (byteRows b)) = 1 := by
  cases b with
  | nil => exact .inl rfl
  | cons c b => exact .inr rfl

/-- A record's bytes, as a slot holds them. -/
def recRow (v : AV) : List AV := [v]
def RecsAt (hp : Hp) (T : Nat → Prop) (rv : AV) (recs : List Bs) : Prop :=
  (recs = [] ∧ rv = .vs true 0 []) ∨ ∃ (a g : Nat) (vs : List AV), recs ≠ [] ∧ rv = .rs a g 0 recs.length 1 ∧ lk hp a = some (g, .arr 1 (vs.map recRow)) ∧ T a ∧ vs.length = recs.length ∧ ∀ (i : Nat) (v : AV) (b : Bs), vs[i]? = some v → recs[i]? = some b → SX 1 hp T v (byteRows b)
theorem SX.bytes {hp : Hp} {T : Nat → Prop} {v : AV} {b : Bs} (h : SX 1 hp T v (byteRows b)) : (b = [] ∧ v = .vs true 0 []) ∨ ∃ k g, v = .rs k g 0 b.length 1 ∧ lk hp k = some (g, .arr 1 (byteRows b)) ∧ T k := by
  rcases h with ⟨h1, h2⟩ | ⟨k, g, h1, h2, h3⟩
  · exact .inl ⟨by simpa [byteRows] using h1, h2⟩
  · exact .inr ⟨k, g, by simpa using h1, h2, h3⟩
/-- An array of records' slots is of its own kind. -/
theorem recs_kind {hp : Hp} {T : Nat → Prop} {vs : List AV} {recs : List Bs} (h0 : recs ≠ []) (hl : vs.length = recs.length) (h : ∀ (i : Nat) (v : AV) (b : Bs), vs[i]? = some v → recs[i]? = some b → SX 1 hp T v (byteRows b)) : aoK (.arr 1 (vs.map recRow)) = 3 := by
  cases recs with
  | nil => exact absurd rfl h0
  | cons b recs =>
    cases vs with
    | nil => simp at hl
    | cons v vs =>
      rcases (h 0 v b rfl rfl).bytes with ⟨_, h2⟩ | ⟨k, g, h2, _⟩
      · rw [h2]; rfl
      · rw [h2]; rfl
theorem RecsAt.mono {hp hp' : Hp} {T T' : Nat → Prop} {rv : AV} {recs : List Bs} (h : RecsAt hp T rv recs) (hf : ∀ j, T j → lk hp' j = lk hp j) (hT : ∀ j, T j → T' j) : RecsAt hp' T' rv recs := by
  rcases h with h | ⟨a, g, vs, h0, h1, h2, h3, h4, h5⟩
  · exact .inl h
  · exact .inr ⟨a, g, vs, h0, h1, (hf a h3).trans h2, hT a h3, h4, fun i v b hv hb => (h5 i v b hv hb).mono hf hT⟩
/-- Objects of other kinds may turn. -/
theorem RecsAt.kinds {hp hp' : Hp} {T T' : Nat → Prop} {rv : AV} {recs : List Bs} (h : RecsAt hp T rv recs) (hf : ∀ j x, T j → lk hp j = some x → aoK x.2 ≤ 1 → lk hp' j = lk hp j) (hf2 : ∀ j g n, T j → rv = .rs j g 0 n 1 → lk hp' j = lk hp j) (hT : ∀ j, T j → T' j) : RecsAt hp' T' rv recs := by
  rcases h with h | ⟨a, g, vs, h0, h1, h2, h3, h4, h5⟩
  · exact .inl h
  · refine .inr ⟨a, g, vs, h0, h1, (hf2 a g _ h3 h1).trans h2, hT a h3, h4, fun i v b hv hb => ?_⟩
    rcases (h5 i v b hv hb) with h6 | ⟨k, g, h6, h7, h8⟩
    · exact .inl h6
    · exact .inr ⟨k, g, h6, (hf k _ h8 h7 (by rcases aoK_bytes b with e | e <;> simp [e])).trans h7, hT k h8⟩

structure SgAt (hp : Hp) (T : Nat → Prop) (k : Nat) (rv : AV) (s : Sg) : Prop where
  top : lk hp k = some (0, .cells [.i .u64 (s.no : Nat), rv, .i .i64 (s.size : Nat)])
  topT : T k
  recs : RecsAt hp T rv s.recs
theorem SgAt.mono {hp hp' : Hp} {T T' : Nat → Prop} {k : Nat} {rv : AV} {s : Sg} (h : SgAt hp T k rv s) (hf : ∀ j, T j → lk hp' j = lk hp j) (hT : ∀ j, T j → T' j) : SgAt hp' T' k rv s :=
  ⟨(hf k h.topT).trans h.top, hT k h.topT, h.recs.mono hf hT⟩

def slRow (k : Nat) : List AV := [.ptr k 0 0]
def SegsV (hp : Hp) (T : Nat → Prop) (sv : AV) (ks : List Nat) : Prop :=
  (ks = [] ∧ ∃ z, sv = .vs true z []) ∨ ∃ (a g i0 : Nat) (all : List Nat), sv = .rs a g i0 ks.length 1 ∧ lk hp a = some (g, .arr 1 (all.map slRow)) ∧ (all.drop i0).take ks.length = ks ∧ i0 + ks.length ≤ all.length ∧ all ≠ [] ∧ T a
theorem segs_kind {all : List Nat} (h : all ≠ []) : aoK (.arr 1 (all.map slRow)) = 2 := by
  cases all with
  | nil => exact absurd rfl h
  | cons a all => rfl
theorem SegsV.mono {hp hp' : Hp} {T T' : Nat → Prop} {sv : AV} {ks : List Nat} (h : SegsV hp T sv ks) (hf : ∀ j x, T j → lk hp j = some x → aoK x.2 = 2 → lk hp' j = lk hp j) (hT : ∀ j, T j → T' j) : SegsV hp' T' sv ks := by
  rcases h with h | ⟨a, g, i0, all, h1, h2, h3, h4, h5, h6⟩
  · exact .inl h
  · exact .inr ⟨a, g, i0, all, h1, (hf a _ h6 h2 (segs_kind h5)).trans h2, h3, h4, h5, hT a h6⟩
theorem SegsV.len {hp : Hp} {T : Nat → Prop} {sv : AV} {ks : List Nat} (h : SegsV hp T sv ks) : slLen sv = some ks.length := by
  rcases h with ⟨rfl, z, rfl⟩ | ⟨a, g, i0, all, rfl, _⟩ <;> rfl
theorem SegsV.okc {hp : Hp} {T : Nat → Prop} {sv : AV} {ks : List Nat} (h : SegsV hp T sv ks) : sv.okc = true := by
  rcases h with ⟨rfl, z, rfl⟩ | ⟨a, g, i0, all, rfl, _⟩ <;> rfl
theorem SegsV.mv {hp : Hp} {T : Nat → Prop} {sv : AV} {ks : List Nat} (h : SegsV hp T sv ks) : sv.mv = true := by
  rcases h with ⟨rfl, z, rfl⟩ | ⟨a, g, i0, all, rfl, _⟩ <;> rfl
/-- A place of it. -/
theorem SegsV.at {hp : Hp} {T : Nat → Prop} {sv : AV} {ks : List Nat} (h : SegsV hp T sv ks) {i k : Nat} (hk : ks[i]? = some k) :
    ∃ (a g i0 : Nat) (all : List Nat), sv = .rs a g i0 ks.length 1 ∧ lk hp a = some (g, .arr 1 (all.map slRow)) ∧ (all.map slRow)[i0 + i]? = some [.ptr k 0 0] ∧ i < ks.length ∧ i0 + ks.length ≤ all.length ∧ T a := by
  rcases h with ⟨rfl, z, rfl⟩ | ⟨a, g, i0, all, h1, h2, h3, h4, h5, h6⟩
  · simp at hk
  · refine ⟨a, g, i0, all, h1, h2, ?_, (List.getElem?_eq_some_iff.1 hk).1, h4, h6⟩
    have hi := (List.getElem?_eq_some_iff.1 hk).1
    rw [← h3, List.getElem?_take_of_lt hi, List.getElem?_drop] at hk
    rw [List.getElem?_map, hk]
    rfl

/-- A log on the heap: kl: its object; sv: its slice of segments; ks: their objects; rvs: the slices of their records. -/
structure GX (hp : Hp) (kl kd : Nat) (l : Lg) (T : Nat → Prop) (sv : AV) (ks : List Nat) (rvs : Nat → AV) : Prop where
  top : lk hp kl = some (0, .cells [.ptr kd 0 0, .s (ba l.name), .i .i64 (l.size : Nat), sv, .i .u64 (l.last : Nat), .i .u64 (l.fast : Nat)])
  topT : T kl
  segs : SegsV hp T sv ks
  len : ks.length = l.segs.length
  seg : ∀ (i k : Nat) (s : Sg), ks[i]? = some k → l.segs[i]? = some s → SgAt hp T k (rvs k) s
  inj : ks.Nodup
  rinj : ∀ k k' a g n g' n', k ∈ ks → k' ∈ ks → rvs k = .rs a g 0 n 1 → rvs k' = .rs a g' 0 n' 1 → k = k'
theorem GX.mono {hp hp' : Hp} {kl kd : Nat} {l : Lg} {T T' : Nat → Prop} {sv : AV} {ks : List Nat} {rvs : Nat → AV} (h : GX hp kl kd l T sv ks rvs) (hf : ∀ j, T j → lk hp' j = lk hp j) (hT : ∀ j, T j → T' j) : GX hp' kl kd l T' sv ks rvs :=
  ⟨(hf kl h.topT).trans h.top, hT kl h.topT, h.segs.mono (fun j _ hj _ _ => hf j hj) hT, h.len, fun i k s h1 h2 => (h.seg i k s h1 h2).mono hf hT, h.inj, h.rinj⟩

/-- A log and its disk: U: what belongs to both. -/
def LX (kl kd : Nat) (l : Lg) (d : Dk) (U : Nat → Prop) (sv : AV) (ks : List Nat) (rvs : Nat → AV) (H : Hp) (N : Nat) : Prop :=
  ∃ S T, PRep H N kd d S ∧ GX H kl kd l T sv ks rvs ∧ (∀ j, S j → ¬ T j) ∧ (∀ j, S j → U j) ∧ (∀ j, T j → U j) ∧ ∀ j, U j → j < N
variable {kl kd : Nat} {l l' : Lg} {d d' : Dk} {U U' : Nat → Prop} {sv sv' : AV} {ks ks' : List Nat} {rvs : Nat → AV} {H H' : Hp} {N N' : Nat}

theorem LX.frame (h : LX kl kd l d U sv ks rvs H N) (hf : ∀ j, U j → lk H' j = lk H j) (hn : N ≤ N') : LX kl kd l d U sv ks rvs H' N' := by
  obtain ⟨S, T, h1, h2, h3, h4, h5, h6⟩ := h
  exact ⟨S, T, h1.frame (fun j hj => hf j (h4 j hj)) hn, h2.mono (fun j hj => hf j (h5 j hj)) fun _ h => h, h3, h4, h5, fun j hj => Nat.lt_of_lt_of_le (h6 j hj) hn⟩
theorem LX.lt (h : LX kl kd l d U sv ks rvs H N) : ∀ j, U j → j < N := by
  obtain ⟨S, T, h1, h2, h3, h4, h5, h6⟩ := h
  exact h6
theorem LX.low (h : LX kl kd l d U sv ks rvs H N) (hf : ∀ j, j < N → lk H' j = lk H j) (hn : N ≤ N') : LX kl kd l d U sv ks rvs H' N' := h.frame (fun j hj => hf j (h.lt j hj)) hn
theorem LX.widen (h : LX kl kd l d U sv ks rvs H N) (hU : ∀ j, U j → U' j) (hlt : ∀ j, U' j → j < N) : LX kl kd l d U' sv ks rvs H N := by
  obtain ⟨S, T, h1, h2, h3, h4, h5, h6⟩ := h
  exact ⟨S, T, h1, h2, h3, fun j hj => hU j (h4 j hj), fun j hj => hU j (h5 j hj), hlt⟩
theorem LX.top (h : LX kl kd l d U sv ks rvs H N) : lk H kl = some (0, .cells [.ptr kd 0 0, .s (ba l.name), .i .i64 (l.size : Nat), sv, .i .u64 (l.last : Nat), .i .u64 (l.fast : Nat)]) := by
  obtain ⟨S, T, h1, h2, h3, h4, h5, h6⟩ := h
  exact h2.top
theorem LX.klU (h : LX kl kd l d U sv ks rvs H N) : U kl := by
  obtain ⟨S, T, h1, h2, h3, h4, h5, h6⟩ := h
  exact h5 _ h2.topT
theorem LX.kl_lt (h : LX kl kd l d U sv ks rvs H N) : kl < N := h.lt _ h.klU
theorem LX.slen (h : LX kl kd l d U sv ks rvs H N) : slLen sv = some l.segs.length := by
  obtain ⟨S, T, h1, h2, h3, h4, h5, h6⟩ := h
  rw [h2.segs.len, h2.len]
theorem LX.sokc (h : LX kl kd l d U sv ks rvs H N) : sv.okc = true := by
  obtain ⟨S, T, h1, h2, h3, h4, h5, h6⟩ := h
  exact h2.segs.okc
theorem LX.smv (h : LX kl kd l d U sv ks rvs H N) : sv.mv = true := by
  obtain ⟨S, T, h1, h2, h3, h4, h5, h6⟩ := h
  exact h2.segs.mv
theorem LX.len (h : LX kl kd l d U sv ks rvs H N) : ks.length = l.segs.length := by
  obtain ⟨S, T, h1, h2, h3, h4, h5, h6⟩ := h
  exact h2.len
/-- A segment, as it lies. -/
theorem LX.at (h : LX kl kd l d U sv ks rvs H N) {i : Nat} {s : Sg} (hs : l.segs[i]? = some s) :
    ∃ (k a g i0 : Nat) (all : List (List AV)), ks[i]? = some k ∧ sv = .rs a g i0 l.segs.length 1 ∧ lk H a = some (g, .arr 1 all) ∧ all[i0 + i]? = some [.ptr k 0 0] ∧ i0 + l.segs.length ≤ all.length ∧ U a ∧ i < l.segs.length ∧
      lk H k = some (0, .cells [.i .u64 (s.no : Nat), rvs k, .i .i64 (s.size : Nat)]) ∧ U k ∧ RecsAt H U (rvs k) s.recs := by
  obtain ⟨S, T, h1, h2, h3, h4, h5, h6⟩ := h
  have hi := (List.getElem?_eq_some_iff.1 hs).1
  obtain ⟨k, hk⟩ : ∃ k, ks[i]? = some k := ⟨_, List.getElem?_eq_getElem (by rw [h2.len]; exact hi)⟩
  obtain ⟨a, g, i0, all, e1, e2, e3, e4, e5, e6⟩ := h2.segs.at hk
  have hg := h2.seg i _ s hk hs
  rw [h2.len] at e1 e5
  exact ⟨_, a, g, i0, _, hk, e1, e2, e3, by simpa using e5, h5 _ e6, hi, hg.top, h5 _ hg.topT, hg.recs.mono (fun _ _ => rfl) h5⟩

/-- A call on the disk alone. -/
theorem lx_disk {K n : Nat} {g : FuncId} {args : List AV} {r0 : AV} (h : LX kl kd l d U sv ks rvs H N) (hs : ∀ S, PRep H N kd d S → (∀ j, S j → U j) → Sp K n g args H N fun r H' N' => r = r0 ∧ PRep H' N' kd d' (grw S N N') ∧ Frm S H N H' N') :
    Sp K n g args H N fun r H' N' => r = r0 ∧ LX kl kd l d' (grw U N N') sv ks rvs H' N' ∧ Frm U H N H' N' := by
  obtain ⟨S, T, h1, h2, h3, h4, h5, h6⟩ := h
  refine (hs S h1 h4).mono fun r H' N' ⟨e, p, f⟩ => ⟨e, ⟨grw S N N', T, p, h2.mono (fun j hj => f.out j (h6 j (h5 j hj)) fun e => h3 j e hj) fun _ h => h, fun j hj e => ?_, fun j hj => hj.imp (h4 j) id, fun j hj => .inl (h5 j hj), grw_lt h6 f.le⟩, ⟨f.le, fun j hj hn => f.out j hj fun e => hn (h4 j e)⟩⟩
  rcases hj with hj | hj
  · exact h3 j hj e
  · have := h6 j (h5 j e)
    omega

/-- The log's own object turns. -/
theorem LX.setTop (h : LX kl kd l d U sv ks rvs H N) (hl : l'.segs = l.segs) (ht : lk H' kl = some (0, .cells [.ptr kd 0 0, .s (ba l'.name), .i .i64 (l'.size : Nat), sv, .i .u64 (l'.last : Nat), .i .u64 (l'.fast : Nat)])) (ho : ∀ j, j < N → j ≠ kl → lk H' j = lk H j) (hn : N ≤ N') : LX kl kd l' d U sv ks rvs H' N' := by
  obtain ⟨S, T, h1, h2, h3, h4, h5, h6⟩ := h
  have hT : ∀ j, T j → j < N := fun j hj => h6 j (h5 j hj)
  refine ⟨S, T, h1.frame (fun j hj => ho j (h6 j (h4 j hj)) fun e => h3 j hj (e ▸ h2.topT)) hn, ⟨ht, h2.topT, h2.segs.mono (fun j x hj hx hk => ho j (hT j hj) (ne_of_kind hx h2.top (by rw [hk]; simp [aoK]))) fun _ h => h, by rw [hl]; exact h2.len, fun i k s e1 e2 => ?_, h2.inj, h2.rinj⟩, h3, h4, h5, fun j hj => Nat.lt_of_lt_of_le (h6 j hj) hn⟩
  have hg := h2.seg i k s e1 (hl ▸ e2)
  have hk : k ≠ kl := ne_of_lk hg.top h2.top (by simp)
  refine ⟨(ho k (hT k hg.topT) hk).trans hg.top, hg.topT, hg.recs.kinds (fun j x hj hx hkx => ho j (hT j hj) (ne_of_kind hx h2.top fun e => by rw [e] at hkx; simp [aoK] at hkx)) (fun j g n hj hrv => ho j (hT j hj) fun e => ?_) fun _ h => h⟩
  rcases hg.recs with ⟨_, e3⟩ | ⟨a, g', vs, f0, f1, f2, f3, f4, f5⟩
  · rw [hrv] at e3; cases e3
  · rw [hrv] at f1
    injection f1 with f1
    subst f1
    rw [e, h2.top] at f2
    simp at f2
/-- Some of the segments, in a row. -/
theorem LX.cutTop (h : LX kl kd l d U sv ks rvs H N) {lo hi : Nat} {a g i0 : Nat} (hsv : sv = .rs a g i0 l.segs.length 1) (h1 : lo ≤ hi) (h2 : hi ≤ l.segs.length) (hl : l'.segs = (l.segs.take hi).drop lo)
    (ht : lk H' kl = some (0, .cells [.ptr kd 0 0, .s (ba l'.name), .i .i64 (l'.size : Nat), .rs a g (i0 + lo) (hi - lo) 1, .i .u64 (l'.last : Nat), .i .u64 (l'.fast : Nat)])) (ho : ∀ j, j < N → j ≠ kl → lk H' j = lk H j) (hn : N ≤ N') :
    LX kl kd l' d U (.rs a g (i0 + lo) (hi - lo) 1) ((ks.take hi).drop lo) rvs H' N' := by
  have hb : LX kl kd { l' with segs := l.segs } d U sv ks rvs (up H' kl (0, .cells [.ptr kd 0 0, .s (ba l'.name), .i .i64 (l'.size : Nat), sv, .i .u64 (l'.last : Nat), .i .u64 (l'.fast : Nat)])) N' :=
    h.setTop (l' := { l' with segs := l.segs }) rfl (by rw [lk_set, if_pos rfl]) (fun j hj hk => by rw [lk_set, if_neg hk]; exact ho j hj hk) hn
  obtain ⟨S, T, p1, p2, p3, p4, p5, p6⟩ := hb
  have hke : ∀ j, j ≠ kl → lk H' j = lk (up H' kl (0, .cells [.ptr kd 0 0, .s (ba l'.name), .i .i64 (l'.size : Nat), sv, .i .u64 (l'.last : Nat), .i .u64 (l'.fast : Nat)])) j := fun j hj => by rw [lk_set, if_neg hj]
  generalize up H' kl (0, .cells [.ptr kd 0 0, .s (ba l'.name), .i .i64 (l'.size : Nat), sv, .i .u64 (l'.last : Nat), .i .u64 (l'.fast : Nat)]) = H1 at *
  have hlen : ks.length = l.segs.length := p2.len
  refine ⟨S, T, p1.frame (fun j hj => hke j fun e => p3 j hj (e ▸ p2.topT)) (Nat.le_refl _), ⟨ht, p2.topT, ?_, by rw [hl]; simp [hlen], fun i k s e1 e2 => ?_, p2.inj.sublist ((List.drop_sublist _ _).trans (List.take_sublist _ _)), fun k k' a g n g' n' e1 e2 => p2.rinj k k' a g n g' n' (List.mem_of_mem_take (List.mem_of_mem_drop e1)) (List.mem_of_mem_take (List.mem_of_mem_drop e2))⟩, p3, p4, p5, p6⟩
  · rcases p2.segs with ⟨_, z, e2⟩ | ⟨a', g', j0, all, f1, f2, f3, f4, f5, f6⟩
    · rw [hsv] at e2; cases e2
    · rw [hsv] at f1
      injection f1 with f11 f12 f13 f14
      subst f11 f12 f13
      have hln : ((ks.take hi).drop lo).length = hi - lo := by simp; omega
      refine .inr ⟨a, g, i0 + lo, all, by rw [hln], (hke a (ne_of_lk f2 p2.top (by simp))).trans f2, ?_, by rw [hln]; omega, f5, f6⟩
      rw [hln, ← f3, List.take_take, Nat.min_eq_left (by omega), List.drop_take, List.drop_drop]
  · have e1' : ks[lo + i]? = some k := by
      have hi' := (List.getElem?_eq_some_iff.1 e1).1
      simp at hi'
      rw [List.getElem?_drop, List.getElem?_take_of_lt (by omega)] at e1
      exact e1
    have e2' : l.segs[lo + i]? = some s := by
      rw [hl] at e2
      have hi' := (List.getElem?_eq_some_iff.1 e2).1
      simp at hi'
      rw [List.getElem?_drop, List.getElem?_take_of_lt (by omega)] at e2
      exact e2
    have hg := p2.seg (lo + i) k s e1' e2'
    have hT : ∀ j x, T j → lk H1 j = some x → aoK x.2 ≠ 16 → lk H' j = lk H1 j := fun j x _ hx hk => hke j (ne_of_kind hx p2.top hk)
    refine ⟨(hT k _ hg.topT hg.top (by simp [aoK])).trans hg.top, hg.topT, hg.recs.kinds (fun j x hj hx hk => hT j x hj hx (by omega)) (fun j g n hj hrv => ?_) fun _ h => h⟩
    rcases hg.recs with ⟨_, e3⟩ | ⟨a, g', vs, f0, f1, f2, f3, f4, f5⟩
    · rw [hrv] at e3; cases e3
    · rw [hrv] at f1
      injection f1 with f1
      subst f1
      exact hT j _ f3 f2 (by simp only [recs_kind f0 f4 f5]; omega)

end Ab
end Go.Proofs.YtmbbnoipoifhhaaGreatDoor
