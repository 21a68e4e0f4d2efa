/-
  DERIVED. The program's disk, call by call: New, List, Image.
  Conditions: enough rounds, enough depth; a disk of bounded size.
-/
import Derived.Test.YtmbbnoipoifhhaaGreatDoorD11
set_option linter.all false
set_option maxHeartbeats 4000000
namespace Go.Proofs.YtmbbnoipoifhhaaGreatDoor
namespace Ab
set_option maxRecDepth 100000
set_option maxHeartbeats 8000000
set_option linter.all false
attribute [local simp] wp_region regionA opsA nCall rCall goCallR pCall pnCall lenA appendA appRow newsA rowsSz rowsOf isIntD makeSliceA elemOf rowsBuilt eqA eq1

theorem c_pNew1 {K n nx : Nat} (hn : 1 ≤ n) (q : Nat) (hq : q ≤ 16777216) :
    callA cfg K n 8 [.i .i64 (q : Nat)] [] nx = some (.tup [.ptr (nx + 11) 0 0, .i .i64 0], [(nx + 9, (0, .mp [])), (nx + 11, (0, .cells [.i .i64 (q : Nat), .mp (some (nx + 9)), .vs true 0 [], .i .i64 0]))], nx + 14) := by
  obtain ⟨n, rfl⟩ : ∃ m, n = m + 1 := ⟨n - 1, by omega⟩
  have : Sp K (n + 1) 8 [.i .i64 (q : Nat)] [] nx fun r hp' nx' => r = .tup [.ptr (nx + 11) 0 0, .i .i64 0] ∧ hp' = [(nx + 9, (0, .mp [])), (nx + 11, (0, .cells [.i .i64 (q : Nat), .mp (some (nx + 9)), .vs true 0 [], .i .i64 0]))] ∧ nx' = nx + 14 := by
    refine sp_cps fun Q hQ => ?_
    refine sp_of rfl (run_wp Tryz.func8 rfl (by simp [Tryz.f8]) ?_)
    have h1 : ¬ (q : Int) < 0 := by omega
    have h2 : ¬ (16777216 : Int) < q := by omega
    simp [h1, h2]
    exact hQ _ _ _ ⟨rfl, rfl, rfl⟩
  obtain ⟨r, hp', nx', h1, h2, h3, h4⟩ := this
  rw [h1, h2, h3, h4]

theorem newDk_inv (q : Nat) (hq : q ≤ 16777216) : (newDk q).Inv 0 := by
  refine ⟨by simpa [newDk] using hq, by simp [newDk], by simp [newDk], by simp [newDk], fun w hw => ?_, fun x hx => by simp [newDk] at hx, by simp [newDk]⟩
  simp [newDk] at hw
  subst hw
  simp [Rising]

/-- A new disk. -/
theorem new_rep {hp : Hp} {nx nx' a b q : Nat} (hab : a ≠ b) (ha : nx ≤ a) (hb : nx ≤ b) (ha2 : a < nx') (hb2 : b < nx') (h1 : lk hp a = some (0, .mp [])) (h2 : lk hp b = some (0, .cells [.i .i64 (q : Nat), .mp (some a), .vs true 0 [], .i .i64 0])) :
    PRep hp nx' b (newDk q) (fun j => nx ≤ j ∧ j < nx') := by
  have hno : ∀ i, ¬ (newDk q).Has i := fun i ⟨w, hw, e, he, _⟩ => by
    simp [newDk] at hw
    subst hw
    simp at he
  refine ⟨fun j hj => hj.2, a, .vs true 0 [], [], fun _ => 0, fun _ => .vs true 0 [], ⟨h2, ⟨hb, hb2⟩, ⟨[], h1, by simp [newDk, Dk.now]⟩, ⟨ha, ha2⟩, .inl ⟨rfl, rfl⟩, rfl, fun j mj w h _ => by simp at h, fun i hi => absurd hi (hno i), fun i j hi => absurd hi (hno i), fun i j kb g n g' n' hi => absurd hi (hno i), fun i kb g n g' n' hi => absurd hi (hno i)⟩⟩

def nameRows (w : Way) : List (List AV) := w.map fun e => [.s (ba e.1)]
@[simp] theorem nameRows_len (w : Way) : (nameRows w).length = w.length := by simp [nameRows]

theorem nameOk_len {s : Bs} (h : nameOk s = true) : 1 ≤ s.length ∧ s.length ≤ 64 := by
  simp [nameOk] at h
  exact ⟨h.1.1, h.1.2⟩

theorem f_list {K n N : Nat} (hn : 1 ≤ n) {d : Dk} {k m : Nat} {wv : AV} {ms : List Nat} {φ : Nat → Nat} {bv : Nat → AV} {hp : Hp} {S : Nat → Prop} (hI : d.Inv N) (h : PDk hp k m wv ms φ bv d S) (nx : Nat) :
    callA cfg K n 49 [.ptr k 0 0] hp nx = some (if d.now = [] then (.vs true 0 [], hp, nx) else (.rs nx 0 0 d.now.length 1, up hp nx (0, .arr 1 (nameRows d.now)), nx + 1)) := by
  obtain ⟨es, hm, hp'⟩ := h.now
  have hlen : es.length = d.now.length := by have := hp'.length_eq; simpa using this
  have hmem : ∀ e ∈ es, ∃ e' ∈ d.now, e.1 = e'.1 := fun e he => by
    obtain ⟨e', h1, h2⟩ := List.mem_map.1 (hp'.mem_iff.1 he)
    exact ⟨e', h1, by rw [← h2]⟩
  rw [h_list hn h.top hm (perm_nodup hp' hI.rising) (by have := hI.nowlen; omega) (fun e he => by
    obtain ⟨e', h1, h2⟩ := hmem e he
    rw [h2]
    have := (nameOk_len ((hI.way _ hI.now).2.2 e' h1).2).2
    omega), sorted_names hp' hI.rising]
  by_cases hnil : d.now = []
  · have : es = [] := List.eq_nil_of_length_eq_zero (by rw [hlen, hnil]; rfl)
    simp [hnil, this]
  · have : es ≠ [] := fun e => hnil (List.eq_nil_of_length_eq_zero (by rw [← hlen, e]; rfl))
    simp only [if_neg hnil, if_neg this, hlen, nameRows, List.map_map]
    rfl

theorem c_pList {K n N : Nat} (hn : 2 ≤ n) {d : Dk} {k m : Nat} {wv : AV} {ms : List Nat} {φ : Nat → Nat} {bv : Nat → AV} {hp : Hp} {nx : Nat} {S : Nat → Prop} (hI : d.Inv N) (h : PDk hp k m wv ms φ bv d S) :
    Sp K n 71 [.ptr k 0 0] hp nx fun r hp' nx' => nx ≤ nx' ∧ (∀ j, j < nx → lk hp' j = lk hp j) ∧ SX 1 hp' (fun j => nx ≤ j ∧ j < nx') r (nameRows d.now) := by
  refine sp_cps fun Q hQ => ?_
  obtain ⟨n, rfl⟩ : ∃ m, n = m + 1 := ⟨n - 1, by omega⟩
  have el := fun nx => f_list (K := K) (n := n) (by omega) hI h nx
  refine sp_of rfl (run_wp Tryz.func71 rfl (by simp [Tryz.f71]) ?_)
  by_cases hnil : d.now = []
  · simp [el, hnil]
    exact hQ _ _ _ ⟨by omega, fun _ _ => rfl, .inl ⟨by simp [hnil, nameRows], rfl⟩⟩
  · simp [el, hnil, Nat.add_assoc]
    exact hQ _ _ _ ⟨by omega, fun j hj => by rw [lk_set, if_neg (by omega)], .inr ⟨_, _, by simp; exact ⟨rfl, rfl⟩, by rw [lk_set, if_pos rfl], by omega, by omega⟩⟩

/-- Rows of a disk's image. -/
def EntR3 (hp : Hp) (S : Nat → Prop) (d : Dk) (rows : List (List AV)) (w : Way) : Prop :=
  rows.length = w.length ∧ ∀ (i : Nat) (r : List AV) (e : Bs × Nat), rows[i]? = some r → w[i]? = some e → ∃ v, r = [.s (ba e.1), v, .i .i64 ((d.file e.2).fast : Nat)] ∧ SX 1 hp S v (byteRows (d.file e.2).b)

theorem EntR3.mono {hp hp' : Hp} {S S' : Nat → Prop} {d : Dk} {rows : List (List AV)} {w : Way} (h : EntR3 hp S d rows w) (hf : ∀ j, S j → lk hp' j = lk hp j) (hS : ∀ j, S j → S' j) : EntR3 hp' S' d rows w :=
  ⟨h.1, fun i r e h1 h2 => by
    obtain ⟨v, a, b⟩ := h.2 i r e h1 h2
    exact ⟨v, a, b.mono hf hS⟩⟩
end Ab
end Go.Proofs.YtmbbnoipoifhhaaGreatDoor
