/-
  DERIVED. A LOG's BYTES, in plain Lean: numbers, hashes, records; what a file that is cut off still has.
  Conditions: none of a program's.
-/
import Derived.Test.YtmbbnoipoifhhaaGreatDoorDB
set_option linter.all false
set_option maxHeartbeats 4000000
namespace Go.Proofs.YtmbbnoipoifhhaaGreatDoor
namespace Ab
set_option linter.all false

/-- A number in so many bytes, the highest first. -/
def be : Nat → Nat → Bs
  | 0, _ => []
  | k + 1, n => UInt8.ofNat (n / 256 ^ k % 256) :: be k n
def numB (b : Bs) : Nat := b.foldl (fun n x => n * 256 + x.toNat) 0
theorem be_len : ∀ k n, (be k n).length = k
  | 0, _ => rfl
  | k + 1, n => by simp [be, be_len k n]
theorem num_from (a : Nat) : ∀ b : Bs, b.foldl (fun n x => n * 256 + x.toNat) a = a * 256 ^ b.length + numB b
  | [] => by simp [numB]
  | x :: b => by
    rw [numB, List.foldl_cons, List.foldl_cons, num_from (a * 256 + x.toNat) b, num_from (0 * 256 + x.toNat) b, List.length_cons, Nat.pow_succ]
    simp only [Nat.add_mul, Nat.mul_assoc, Nat.mul_comm 256, Nat.zero_mul, Nat.zero_add]
    omega
theorem num_be : ∀ k n, numB (be k n) = n % 256 ^ k
  | 0, n => by simp [be, numB, Nat.mod_one]
  | k + 1, n => by
    rw [be, numB, List.foldl_cons, num_from, be_len, num_be k n]
    have h1 : (UInt8.ofNat (n / 256 ^ k % 256)).toNat = n / 256 ^ k % 256 := by simp
    rw [h1, Nat.zero_mul, Nat.zero_add, Nat.pow_succ, Nat.mod_mul]
    rw [Nat.mul_comm]
    omega

def fnv1 (h : Nat) (x : UInt8) : Nat := ((h ^^^ x.toNat) * 1099511628211) % 18446744073709551616
def fnv (b : Bs) : Nat := b.foldl fnv1 14695981039346656037
def magicB : Bs := [76, 79, 67, 75, 83, 84, 69, 80]
def headB (no : Nat) : Bs := magicB ++ be 8 no ++ be 8 (fnv (magicB ++ be 8 no))
def sumB (no : Nat) (b : Bs) : Bs := be 8 (fnv (be 8 no ++ be 4 b.length ++ b))
def recB (no : Nat) (b : Bs) : Bs := be 4 b.length ++ b ++ sumB no b
def maxM : Nat := 65536
theorem head_len (no : Nat) : (headB no).length = 24 := by simp [headB, be_len, magicB]
theorem sum_len (no : Nat) (b : Bs) : (sumB no b).length = 8 := be_len _ _
theorem rec_len (no : Nat) (b : Bs) : (recB no b).length = b.length + 12 := by simp [recB, be_len, sum_len]; omega
def recsB : Nat → List Bs → Bs
  | _, [] => []
  | no, b :: r => recB no b ++ recsB (no + 1) r
def recsN : List Bs → Nat
  | [] => 0
  | b :: r => b.length + 12 + recsN r
theorem recs_len : ∀ (r : List Bs) (no : Nat), (recsB no r).length = recsN r
  | [], _ => rfl
  | b :: r, no => by simp [recsB, recsN, rec_len, recs_len r]
theorem recs_app : ∀ (a b : List Bs) (no : Nat), recsB no (a ++ b) = recsB no a ++ recsB (no + a.length) b
  | [], b, no => by simp [recsB]
  | x :: a, b, no => by
    have := recs_app a b (no + 1)
    simp only [List.cons_append, recsB, this, List.append_assoc, List.length_cons]
    rw [show no + 1 + a.length = no + (a.length + 1) by omega]
theorem recsN_app (a b : List Bs) : recsN (a ++ b) = recsN a + recsN b := by
  rw [← recs_len (a ++ b) 0, recs_app, List.length_append, recs_len, recs_len]

/-- The records that are whole, one after the other. -/
def readR : Nat → Nat → Bs → List Bs
  | 0, _, _ => []
  | f + 1, no, p =>
    if p.length < 4 then [] else
    if maxM < numB (p.take 4) ∨ p.length < numB (p.take 4) + 12 then [] else
    if (p.drop (4 + numB (p.take 4))).take 8 ≠ sumB no ((p.drop 4).take (numB (p.take 4))) then [] else
    (p.drop 4).take (numB (p.take 4)) :: readR f (no + 1) (p.drop (numB (p.take 4) + 12))
/-- How many records lie wholly in so many bytes. -/
def visR : List Bs → Nat → Nat
  | [], _ => 0
  | b :: r, n => if n < b.length + 12 then 0 else visR r (n - (b.length + 12)) + 1
theorem vis_le : ∀ (r : List Bs) (n : Nat), visR r n ≤ r.length
  | [], _ => Nat.le_refl _
  | b :: r, n => by
    rw [visR]
    split
    · simp
    · have := vis_le r (n - (b.length + 12))
      simpa using this
theorem vis_all : ∀ (r : List Bs) (n : Nat), recsN r ≤ n → visR r n = r.length
  | [], _, _ => rfl
  | b :: r, n, h => by
    rw [recsN] at h
    rw [visR, if_neg (by omega), vis_all r _ (by omega)]
    rfl
theorem vis_mono : ∀ (r : List Bs) (m n : Nat), m ≤ n → visR r m ≤ visR r n
  | [], _, _, _ => Nat.le_refl _
  | b :: r, m, n, h => by
    rw [visR, visR]
    split
    · exact Nat.zero_le _
    · rw [if_neg (by omega)]
      have := vis_mono r (m - (b.length + 12)) (n - (b.length + 12)) (by omega)
      omega
/-- What further records come behind does not matter, if the bytes do not reach them. -/
theorem vis_app : ∀ (r s : List Bs) (n : Nat), n < recsN r + (match s with | [] => n + 1 | b :: _ => b.length + 12) → visR (r ++ s) n = visR r n
  | [], [], n, _ => rfl
  | [], b :: s, n, h => by
    simp only [recsN] at h
    simp only [List.nil_append, visR]
    rw [if_pos (by omega)]
  | b :: r, s, n, h => by
    rw [List.cons_append, visR, visR]
    split
    · rfl
    · rw [vis_app r s]
      rw [recsN] at h
      cases s with
      | nil => simp only; omega
      | cons c s => simp only at h ⊢; omega
/-- The bytes of those that lie wholly in so many. -/
theorem vis_n : ∀ (r : List Bs) (n : Nat), recsN (r.take (visR r n)) ≤ n
  | [], _ => by simp [visR, recsN]
  | b :: r, n => by
    rw [visR]
    split
    · simp [recsN]
    · rename_i h
      have := vis_n r (n - (b.length + 12))
      rw [List.take_succ_cons, recsN]
      omega

theorem take_app_left {α : Type} {a b : List α} {n : Nat} (h : n = a.length) : (a ++ b).take n = a := by subst h; simp
theorem drop_app_left {α : Type} {a b : List α} {n : Nat} (h : n = a.length) : (a ++ b).drop n = b := by subst h; simp

theorem read_prefix : ∀ (rs : List Bs) (f no : Nat) (p : Bs), (∀ b ∈ rs, b.length ≤ maxM) → p <+: recsB no rs → p.length ≤ f → readR f no p = rs.take (visR rs p.length)
  | [], f, no, p, _, hp, _ => by
    have : p = [] := by
      rw [recsB] at hp
      exact List.prefix_nil.1 hp
    subst this
    cases f <;> simp [readR, visR]
  | b :: rs, f, no, p, hm, hp, hf => by
    have hb := hm b (by simp)
    have ih := read_prefix rs (f - 1) (no + 1) (p.drop (b.length + 12)) fun x hx => hm x (by simp [hx])
    rw [recsB] at hp
    cases f with
    | zero =>
      have : p = [] := List.length_eq_zero_iff.1 (by omega)
      subst this
      simp [readR, visR]
    | succ f =>
      rw [readR, visR]
      by_cases h4 : p.length < 4
      · rw [if_pos h4, if_pos (by omega)]; rfl
      rw [if_neg h4]
      have h5 : p.take 4 = be 4 b.length := by
        obtain ⟨q, hq⟩ := hp
        have h6 : (p ++ q).take 4 = p.take 4 := List.take_append_of_le_length (by omega)
        rw [← h6, hq, recB, List.append_assoc, List.append_assoc, take_app_left (be_len 4 _).symm]
      have h7 : numB (p.take 4) = b.length := by
        rw [h5, num_be, Nat.mod_eq_of_lt]
        have : b.length ≤ 65536 := hb
        omega
      rw [h7]
      by_cases h8 : p.length < b.length + 12
      · rw [if_pos (Or.inr h8), if_pos h8]; rfl
      rw [if_neg (by intro h; rcases h with h | h <;> omega), if_neg h8]
      have hpre : recB no b <+: p := by
        obtain ⟨q, hq⟩ := hp
        refine List.prefix_of_prefix_length_le (l₃ := recB no b ++ recsB (no + 1) rs) ⟨_, rfl⟩ ⟨q, hq⟩ ?_
        rw [rec_len]; omega
      obtain ⟨p', rfl⟩ := hpre
      have d1 : (recB no b ++ p').drop (b.length + 12) = p' := drop_app_left (rec_len no b).symm
      have d2 : ((recB no b ++ p').drop 4).take b.length = b := by
        rw [recB, List.append_assoc, List.append_assoc, drop_app_left (be_len 4 _).symm, take_app_left rfl]
      have d3 : ((recB no b ++ p').drop (4 + b.length)).take 8 = sumB no b := by
        rw [recB, List.append_assoc, drop_app_left (by rw [List.length_append, be_len]), take_app_left (sum_len _ _).symm]
      rw [d1, d2, d3, if_neg (by simp), List.take_succ_cons]
      rw [d1] at ih
      have hp' : p' <+: recsB (no + 1) rs := by
        rw [List.prefix_append_right_inj] at hp
        exact hp
      have := ih hp' (by simp [rec_len] at hf; simp; omega)
      simp only [Nat.add_sub_cancel] at this
      rw [this]
      have h9 : (recB no b ++ p').length - (b.length + 12) = p'.length := by simp [rec_len]
      rw [h9]

end Ab
end Go.Proofs.YtmbbnoipoifhhaaGreatDoor

/-
  DERIVED. A LOG on a disk, in plain Lean: its files' names, what each call comes to.
  Conditions: none of a program's.
-/
namespace Go.Proofs.YtmbbnoipoifhhaaGreatDoor
namespace Ab
set_option linter.all false

def W64 : Nat := 18446744073709551616
def hexD (n : Nat) : UInt8 := if n < 10 then UInt8.ofNat (48 + n) else UInt8.ofNat (87 + n)
def hexN : Nat → Nat → Bs
  | 0, _ => []
  | k + 1, n => hexD (n / 16 ^ k % 16) :: hexN k n
def fileN (name : Bs) (no : Nat) : Bs := name ++ 46 :: hexN 16 no
def digI (c : UInt8) : Option Nat := if 48 ≤ c.toNat ∧ c.toNat ≤ 57 then some (c.toNat - 48) else if 97 ≤ c.toNat ∧ c.toNat ≤ 102 then some (c.toNat - 87) else none
def unhexF : Nat → Bs → Option Nat
  | n, [] => some n
  | n, c :: r => (digI c).bind fun d => unhexF (n * 16 + d) r
def numberedN (name file : Bs) : Option Nat :=
  if file.take (name.length + 1) = name ++ [46] ∧ file.length = name.length + 17 then unhexF 0 (file.drop (name.length + 1)) else none

theorem hexN_len : ∀ k n, (hexN k n).length = k
  | 0, _ => rfl
  | k + 1, n => by simp [hexN, hexN_len k n]
theorem dig_hex : ∀ n, n < 16 → digI (hexD n) = some n := by
  intro n h
  rcases n with _ | _ | _ | _ | _ | _ | _ | _ | _ | _ | _ | _ | _ | _ | _ | _ | n
  all_goals first | rfl | omega
theorem hex_dig (c : UInt8) (d : Nat) (h : digI c = some d) : d < 16 ∧ hexD d = c := by
  unfold digI at h
  split at h
  · rename_i h1
    cases h
    refine ⟨by omega, ?_⟩
    rw [hexD, if_pos (by omega)]
    apply UInt8.toNat_inj.1
    simp
    omega
  · split at h
    · rename_i h1 h2
      cases h
      refine ⟨by omega, ?_⟩
      rw [hexD, if_neg (by omega)]
      apply UInt8.toNat_inj.1
      simp
      omega
    · cases h
theorem unhex_hex : ∀ k n a, unhexF a (hexN k n) = some (a * 16 ^ k + n % 16 ^ k)
  | 0, n, a => by simp [hexN, unhexF, Nat.mod_one]
  | k + 1, n, a => by
    rw [hexN, unhexF, dig_hex _ (Nat.mod_lt _ (by omega)), Option.bind_some, unhex_hex k n, Nat.pow_succ, Nat.mod_mul, Nat.add_mul, Nat.mul_assoc, Nat.mul_comm 16]
    congr 1
    rw [Nat.mul_comm (16 ^ k) (n / 16 ^ k % 16)]
    omega
theorem hex_unhex : ∀ (l : Bs) (a n : Nat), unhexF a l = some n → hexN l.length n = l ∧ n / 16 ^ l.length = a
  | [], a, n, h => by
    cases h
    simp [hexN]
  | c :: r, a, n, h => by
    rw [unhexF] at h
    cases hd : digI c with
    | none => rw [hd] at h; cases h
    | some d =>
      rw [hd, Option.bind_some] at h
      obtain ⟨h1, h2⟩ := hex_unhex r _ _ h
      obtain ⟨h3, h4⟩ := hex_dig c d hd
      rw [List.length_cons, hexN, h1, h2, Nat.pow_succ, ← Nat.div_div_eq_div_mul, h2]
      refine ⟨?_, by omega⟩
      rw [show (a * 16 + d) % 16 = d by omega, h4]
theorem numbered_file {name : Bs} {no : Nat} (h : no < W64) : numberedN name (fileN name no) = some no := by
  have h1 : (fileN name no).length = name.length + 17 := by simp [fileN, hexN_len]
  have h2 : (fileN name no).take (name.length + 1) = name ++ [46] := by
    rw [fileN, show name ++ 46 :: hexN 16 no = (name ++ [46]) ++ hexN 16 no by simp]
    exact take_app_left (by simp)
  have h3 : (fileN name no).drop (name.length + 1) = hexN 16 no := by
    rw [fileN, show name ++ 46 :: hexN 16 no = (name ++ [46]) ++ hexN 16 no by simp]
    exact drop_app_left (by simp)
  rw [numberedN, if_pos ⟨h2, h1⟩, h3, unhex_hex]
  simp [W64] at h ⊢
  omega
theorem file_numbered {name f : Bs} {no : Nat} (h : numberedN name f = some no) : f = fileN name no ∧ no < W64 := by
  unfold numberedN at h
  split at h
  · rename_i h1
    obtain ⟨h2, h3⟩ := hex_unhex _ _ _ h
    have h4 : (f.drop (name.length + 1)).length = 16 := by simp; omega
    rw [h4] at h2 h3
    refine ⟨?_, ?_⟩
    · rw [fileN, h2, show name ++ 46 :: f.drop (name.length + 1) = (name ++ [46]) ++ f.drop (name.length + 1) by simp, ← h1.1, List.take_append_drop]
    · simp only [W64]
      have := Nat.div_eq_zero_iff.1 h3
      omega
  · cases h
theorem file_inj {name : Bs} {a b : Nat} (ha : a < W64) (hb : b < W64) (h : fileN name a = fileN name b) : a = b := by
  have h1 := numbered_file (name := name) ha
  rw [h, numbered_file hb] at h1
  cases h1; rfl

structure Sg where
  no : Nat
  recs : List Bs
  size : Nat
structure Lg where
  name : Bs
  size : Nat
  segs : List Sg
  last : Nat
  fast : Nat
def Sg.till (s : Sg) : Nat := (s.no + s.recs.length + (W64 - 1)) % W64
def Sg.takes (s : Sg) (b : Bs) : Sg := { s with recs := s.recs ++ [b], size := s.size + b.length + 12 }
def readS (no : Nat) (b : Bs) : Sg × Bool :=
  if b.length < 24 ∨ b.take 24 ≠ headB no then (⟨no, [], 0⟩, false)
  else (⟨no, readR b.length no (b.drop 24), 24 + recsN (readR b.length no (b.drop 24))⟩, true)

def readD (d : Dk) (s : Bs) : Bs := ((d.look s).2.map Fl.b).getD []
def gapOf (segs : List Sg) (no : Nat) : Bool := match segs.getLast? with
  | some p => decide (no ≠ (p.till + 1) % W64)
  | none => false
def badOf (more : Bool) (segs : List Sg) (no : Nat) (s : Sg) (is : Bool) (n : Nat) : Bool :=
  (more && (!is || decide (s.size ≠ n) || decide (s.recs.length = 0))) ||
  (gapOf segs no || decide (no = 0) || (decide ((no + s.recs.length) % W64 < no) && decide ((no + s.recs.length) % W64 ≠ 0))) ||
  (!more && decide (s.recs.length = 0) && segs.isEmpty && decide (no ≠ 1))
/-- All files read: whether the last one is headless, or longer than it is whole; none: they are no log. -/
def lookL (d : Dk) (name : Bs) : List Nat → List Sg → Bool → Bool → Option (List Sg × Bool × Bool)
  | [], segs, h, g => some (segs, h, g)
  | no :: r, segs, _, _ =>
    if badOf (!r.isEmpty) segs no (readS no (readD d (fileN name no))).1 (readS no (readD d (fileN name no))).2 (readD d (fileN name no)).length then none
    else lookL d name r (segs ++ [(readS no (readD d (fileN name no))).1]) (!(readS no (readD d (fileN name no))).2) (decide ((readS no (readD d (fileN name no))).1.size ≠ (readD d (fileN name no)).length))
def syncsL (name : Bs) : List Sg → Dk → Int × Dk
  | [], d => d.syncNames
  | s :: r, d => if (d.sync (fileN name s.no)).1 ≠ 0 then d.sync (fileN name s.no) else syncsL name r (d.sync (fileN name s.no)).2
def mendsL (d : Dk) (name : Bs) (segs : List Sg) (headless long : Bool) : Int × Dk × List Sg :=
  match segs.getLast? with
  | none => ((syncsL name segs d).1, (syncsL name segs d).2, segs)
  | some s =>
    if headless || decide (s.recs.length = 0) then
      (if (d.remove (fileN name s.no)).1 ≠ 0 then ((d.remove (fileN name s.no)).1, (d.remove (fileN name s.no)).2, segs)
       else ((syncsL name segs.dropLast (d.remove (fileN name s.no)).2).1, (syncsL name segs.dropLast (d.remove (fileN name s.no)).2).2, segs.dropLast))
    else if long then
      (if (d.cut (fileN name s.no) s.size).1 ≠ 0 then ((d.cut (fileN name s.no) s.size).1, (d.cut (fileN name s.no) s.size).2, segs)
       else ((syncsL name segs (d.cut (fileN name s.no) s.size).2).1, (syncsL name segs (d.cut (fileN name s.no) s.size).2).2, segs))
    else ((syncsL name segs d).1, (syncsL name segs d).2, segs)
def namedN (s : Bs) : Bool := decide (1 ≤ s.length) && decide (s.length ≤ 40) && s.all fun c => (decide (97 ≤ c.toNat) && decide (c.toNat ≤ 122)) || (decide (48 ≤ c.toNat) && decide (c.toNat ≤ 57)) || c == 95
def openL (d : Dk) (name : Bs) (size : Int) : Int × Dk × Option Lg :=
  if size < 64 ∨ 4194304 < size then (1, d, none) else if !namedN name then (6, d, none) else
  match lookL d name (d.now.filterMap fun e => numberedN name e.1) [] false false with
  | none => (100, d, none)
  | some (segs, h, g) =>
    if (mendsL d name segs h g).1 ≠ 0 then ((mendsL d name segs h g).1, (mendsL d name segs h g).2.1, none)
    else (0, (mendsL d name segs h g).2.1, some ⟨name, size.toNat, (mendsL d name segs h g).2.2, (match (mendsL d name segs h g).2.2.getLast? with | some s => s.till | none => 0), (match (mendsL d name segs h g).2.2.getLast? with | some s => s.till | none => 0)⟩)

def Lg.bytes (l : Lg) (d : Dk) (s : Sg) : Nat := match (d.look (fileN l.name s.no)).2 with
  | some f => f.b.length
  | none => s.size
def syncLast (l : Lg) (d : Dk) : Int × Dk := match l.segs.getLast? with
  | some s => d.sync (fileN l.name s.no)
  | none => (0, d)
def Lg.begins (l : Lg) (d : Dk) (no : Nat) (b : Bs) : Int × Dk × Lg :=
  if (syncLast l d).1 ≠ 0 then ((syncLast l d).1, (syncLast l d).2, l) else
  if ((syncLast l d).2.create (fileN l.name no)).1 ≠ 0 then (((syncLast l d).2.create (fileN l.name no)).1, ((syncLast l d).2.create (fileN l.name no)).2, l) else
  if (((syncLast l d).2.create (fileN l.name no)).2.append (fileN l.name no) (headB no ++ recB no b)).1 ≠ 0 then
    ((((syncLast l d).2.create (fileN l.name no)).2.append (fileN l.name no) (headB no ++ recB no b)).1, ((((syncLast l d).2.create (fileN l.name no)).2.append (fileN l.name no) (headB no ++ recB no b)).2.remove (fileN l.name no)).2, l)
  else (0, (((syncLast l d).2.create (fileN l.name no)).2.append (fileN l.name no) (headB no ++ recB no b)).2, { l with segs := l.segs ++ [Sg.takes ⟨no, [], 24⟩ b] })
/-- An append: what is wrong, the number. -/
def Lg.append (l : Lg) (d : Dk) (b : Bs) : Int × Nat × Dk × Lg :=
  if maxM < b.length ∨ l.last = W64 - 1 then (2, 0, d, l) else
  match l.segs.getLast? with
  | some s =>
    if l.bytes d s < l.size then
      (if (d.append (fileN l.name s.no) (recB (l.last + 1) b)).1 ≠ 0 then ((d.append (fileN l.name s.no) (recB (l.last + 1) b)).1, 0, (d.append (fileN l.name s.no) (recB (l.last + 1) b)).2, l)
       else (0, l.last + 1, (d.append (fileN l.name s.no) (recB (l.last + 1) b)).2, { l with segs := l.segs.dropLast ++ [s.takes b], last := l.last + 1 }))
    else if (l.begins d (l.last + 1) b).1 ≠ 0 then ((l.begins d (l.last + 1) b).1, 0, (l.begins d (l.last + 1) b).2.1, l)
    else (0, l.last + 1, (l.begins d (l.last + 1) b).2.1, { (l.begins d (l.last + 1) b).2.2 with last := l.last + 1 })
  | none =>
    if (l.begins d (l.last + 1) b).1 ≠ 0 then ((l.begins d (l.last + 1) b).1, 0, (l.begins d (l.last + 1) b).2.1, l)
    else (0, l.last + 1, (l.begins d (l.last + 1) b).2.1, { (l.begins d (l.last + 1) b).2.2 with last := l.last + 1 })
def Lg.commit (l : Lg) (d : Dk) : Int × Dk × Lg :=
  if (syncLast l d).1 ≠ 0 then ((syncLast l d).1, (syncLast l d).2, l) else
  if (syncLast l d).2.syncNames.1 ≠ 0 then ((syncLast l d).2.syncNames.1, (syncLast l d).2.syncNames.2, l)
  else (0, (syncLast l d).2.syncNames.2, { l with fast := l.last })
def Lg.first (l : Lg) : Nat := match l.segs with
  | [] => (l.last + 1) % W64
  | s :: _ => s.no
def dropL (name : Bs) (upto : Nat) : List Sg → Dk → Int × Dk × List Sg
  | s :: s' :: r, d => if s.till ≤ upto then (if (d.remove (fileN name s.no)).1 ≠ 0 then ((d.remove (fileN name s.no)).1, (d.remove (fileN name s.no)).2, s :: s' :: r) else dropL name upto (s' :: r) (d.remove (fileN name s.no)).2) else (d.syncNames.1, d.syncNames.2, s :: s' :: r)
  | l, d => (d.syncNames.1, d.syncNames.2, l)
def Lg.drop (l : Lg) (d : Dk) (upto : Nat) : Int × Dk × Lg :=
  if (l.commit d).1 ≠ 0 then l.commit d
  else ((dropL l.name upto (l.commit d).2.2.segs (l.commit d).2.1).1, (dropL l.name upto (l.commit d).2.2.segs (l.commit d).2.1).2.1, { (l.commit d).2.2 with segs := (dropL l.name upto (l.commit d).2.2.segs (l.commit d).2.1).2.2 })
/-- All records with their numbers. -/
def numberRecs : Nat → List Bs → List (Nat × Bs)
  | _, [] => []
  | no, b :: r => (no % W64, b) :: numberRecs (no + 1) r
def Lg.all (l : Lg) : List (Nat × Bs) := (l.segs.map fun s => numberRecs s.no s.recs).flatten
def Lg.read (l : Lg) (from_ : Nat) (most : Int) : Int × List (Nat × Bs) :=
  if from_ < l.first ∨ (l.last < from_ ∧ 1 < from_ - l.last) ∨ most < 0 then (1, [])
  else (0, (l.all.filter fun e => decide (from_ ≤ e.1)).take most.toNat)

end Ab
end Go.Proofs.YtmbbnoipoifhhaaGreatDoor

/-
  DERIVED. A log's files' YtmbbnoipoifhhaaGreatDoorS on a disk: their order, found, put in, taken out. In plain Lean.
  Conditions: none of a program's.
-/
namespace Go.Proofs.YtmbbnoipoifhhaaGreatDoor
namespace Ab
set_option linter.all false

theorem hexD_lt : ∀ a b, a < 16 → b < 16 → (hexD a < hexD b ↔ a < b) := by
  have h : ∀ a : Fin 16, ∀ b : Fin 16, (hexD a < hexD b ↔ (a : Nat) < b) := by decide
  intro a b ha hb
  exact h ⟨a, ha⟩ ⟨b, hb⟩
theorem hexN_lt : ∀ k a b, (hexN k a < hexN k b ↔ a % 16 ^ k < b % 16 ^ k)
  | 0, a, b => by simp [hexN, Nat.mod_one]
  | k + 1, a, b => by
    have h1 := hexD_lt (a / 16 ^ k % 16) (b / 16 ^ k % 16) (Nat.mod_lt _ (by omega)) (Nat.mod_lt _ (by omega))
    have h2 := hexN_lt k a b
    have hp : 0 < 16 ^ k := Nat.pow_pos (by omega)
    have ha := Nat.mod_lt a hp
    have hb := Nat.mod_lt b hp
    rw [hexN, hexN, List.cons_lt_cons_iff, h1, h2, Nat.pow_succ, Nat.mod_mul, Nat.mod_mul]
    have h3 : hexD (a / 16 ^ k % 16) = hexD (b / 16 ^ k % 16) ↔ a / 16 ^ k % 16 = b / 16 ^ k % 16 := by
      constructor
      · intro h
        have q1 := dig_hex _ (Nat.mod_lt (a / 16 ^ k) (by omega : 0 < 16))
        rw [h, dig_hex _ (Nat.mod_lt _ (by omega))] at q1
        exact (Option.some.inj q1).symm
      · intro h; rw [h]
    rw [h3]
    generalize a / 16 ^ k % 16 = x
    generalize b / 16 ^ k % 16 = y
    generalize a % 16 ^ k = u at ha ⊢
    generalize b % 16 ^ k = v at hb ⊢
    generalize 16 ^ k = m at *
    constructor
    · rintro (h | ⟨rfl, h⟩)
      · have : m * x + m ≤ m * y := by
          have := Nat.mul_le_mul_left m (show x + 1 ≤ y from h)
          rw [Nat.mul_add] at this
          omega
        omega
      · omega
    · intro h
      rcases Nat.lt_trichotomy x y with h4 | h4 | h4
      · exact .inl h4
      · subst h4; exact .inr ⟨rfl, by omega⟩
      · have : m * y + m ≤ m * x := by
          have := Nat.mul_le_mul_left m (show y + 1 ≤ x from h4)
          rw [Nat.mul_add] at this
          omega
        omega
theorem app_lt : ∀ (p a b : Bs), (p ++ a < p ++ b ↔ a < b)
  | [], a, b => Iff.rfl
  | x :: p, a, b => by
    rw [List.cons_append, List.cons_append, List.cons_lt_cons_iff, app_lt p]
    simp
theorem file_lt {name : Bs} {a b : Nat} (ha : a < W64) (hb : b < W64) : ltB (fileN name a) (fileN name b) = decide (a < b) := by
  have h : (fileN name a < fileN name b) ↔ a < b := by
    rw [fileN, fileN, app_lt, List.cons_lt_cons_iff, hexN_lt]
    simp only [W64] at ha hb
    rw [Nat.mod_eq_of_lt (by omega), Nat.mod_eq_of_lt (by omega)]
    simp
  rw [ltB, decide_eq_decide]
  exact h

theorem nameOk_file {name : Bs} (h : namedN name = true) (no : Nat) : nameOk (fileN name no) = true := by
  simp only [namedN, Bool.and_eq_true, decide_eq_true_eq, List.all_eq_true, Bool.or_eq_true, beq_iff_eq] at h
  simp only [nameOk, Bool.and_eq_true, decide_eq_true_eq, List.all_eq_true]
  have hh : ∀ k n, ∀ c ∈ hexN k n, 33 ≤ c.toNat ∧ c.toNat ≤ 126 := by
    intro k
    induction k with
    | zero => intro n c hc; simp [hexN] at hc
    | succ k ih =>
      intro n c hc
      rw [hexN] at hc
      rcases List.mem_cons.1 hc with rfl | hc
      · have : ∀ a : Fin 16, 33 ≤ (hexD a).toNat ∧ (hexD a).toNat ≤ 126 := by decide
        exact this ⟨n / 16 ^ k % 16, Nat.mod_lt _ (by omega)⟩
      · exact ih n c hc
  refine ⟨⟨by simp [fileN]; omega, by simp [fileN, hexN_len]; omega⟩, ?_⟩
  intro c hc
  rw [fileN] at hc
  rcases List.mem_append.1 hc with hc | hc
  · rcases h.2 c hc with (h1 | h1) | h1
    · omega
    · omega
    · subst h1; decide
  · rcases List.mem_cons.1 hc with rfl | hc
    · decide
    · exact hh _ _ c hc

theorem rising_find : ∀ {w : Way} {e : Bs × Nat}, Rising w → e ∈ w → findW w e.1 = some e.2
  | [], _, _, h => by cases h
  | x :: w, e, hr, h => by
    have h1 := List.pairwise_cons.1 hr
    rcases List.mem_cons.1 h with rfl | h
    · simp [findW]
    · have hne : (x.1 == e.1) = false := by
        rw [beq_eq_false_iff_ne]
        intro h2
        have := h1.1 e h
        rw [h2, ltB, decide_eq_true_eq] at this
        exact List.lt_irrefl _ this
      have := rising_find h1.2 h
      rw [findW, List.find?_cons, hne]
      exact this
theorem findW_mem {w : Way} {s : Bs} {i : Nat} (h : findW w s = some i) : (s, i) ∈ w := by
  unfold findW at h
  cases hf : w.find? fun e => e.1 == s with
  | none => rw [hf] at h; cases h
  | some e =>
    rw [hf] at h
    cases h
    have h1 := List.find?_some hf
    have h2 := List.mem_of_find?_eq_some hf
    simp at h1
    subst h1
    exact h2
theorem findW_none {w : Way} {s : Bs} (h : ∀ e ∈ w, e.1 ≠ s) : findW w s = none := by
  unfold findW
  rw [Option.map_eq_none_iff, List.find?_eq_none]
  intro e he
  simpa using h e he
theorem ins_end {w : Way} {s : Bs} {i : Nat} (h : ∀ e ∈ w, ltB e.1 s = true) : insW w s i = w ++ [(s, i)] := by
  have h1 : (w.takeWhile fun e => ltB e.1 s) = w := by
    clear i
    induction w with
    | nil => rfl
    | cons x w ih => rw [List.takeWhile_cons, if_pos (h x (by simp)), ih fun e he => h e (by simp [he])]
  have h2 : (w.dropWhile fun e => ltB e.1 s) = [] := by
    have := List.takeWhile_append_dropWhile (p := fun e : Bs × Nat => ltB e.1 s) (l := w)
    rw [h1] at this
    simpa using this
  rw [insW, h1, h2]
  rfl
theorem del_end {w : Way} {s : Bs} {i : Nat} (h : ∀ e ∈ w, e.1 ≠ s) : delW (w ++ [(s, i)]) s = w := by
  rw [delW, List.filter_append]
  have : w.filter (fun e => e.1 != s) = w := List.filter_eq_self.2 fun e he => by simpa using h e he
  rw [this]
  simp
theorem del_head {w : Way} {s : Bs} {i : Nat} (h : ∀ e ∈ w, e.1 ≠ s) : delW ((s, i) :: w) s = w := by
  rw [delW, List.filter_cons_of_neg (by simp)]
  exact List.filter_eq_self.2 fun e he => by simpa using h e he

end Ab
end Go.Proofs.YtmbbnoipoifhhaaGreatDoor

/-
  DERIVED. What a log's files are, in every state of the names that is open. In plain Lean.
  Conditions: none of a program's.
-/
namespace Go.Proofs.YtmbbnoipoifhhaaGreatDoor
namespace Ab
set_option linter.all false

theorem vis_more : ∀ (r s : List Bs) (n : Nat), visR r n ≤ visR (r ++ s) n
  | [], _, _ => Nat.zero_le _
  | b :: r, s, n => by
    rw [List.cons_append, visR, visR]
    split
    · exact Nat.le_refl _
    · have := vis_more r s (n - (b.length + 12))
      omega

/-- What a file of a log is: its number and records (they may reach beyond what it has). -/
abbrev Gh := Nat → Nat × List Bs
def strB (g : Nat × List Bs) : Bs := headB g.1 ++ recsB g.1 g.2
def visF (g : Nat × List Bs) (n : Nat) : Nat := visR g.2 (n - 24)
theorem str_len (g : Nat × List Bs) : (strB g).length = 24 + recsN g.2 := by rw [strB, List.length_append, head_len, recs_len]
theorem visF_all (g : Nat × List Bs) : visF g (strB g).length = g.2.length := vis_all _ _ (by rw [str_len]; omega)
theorem visF_le (g : Nat × List Bs) (n : Nat) : visF g n ≤ g.2.length := vis_le _ _
theorem visF_mono (g : Nat × List Bs) {m n : Nat} (h : m ≤ n) : visF g m ≤ visF g n := vis_mono _ _ _ (by omega)

structure FileIs (all : List Bs) (x : Fl) (g : Nat × List Bs) : Prop where
  pre : x.b <+: strB g
  fast : x.fast ≤ x.b.length
  short : ∀ b ∈ g.2, b.length ≤ maxM
  pos : 1 ≤ g.1
  le : g.1 - 1 + visF g x.b.length ≤ all.length
  same : g.2.take (visF g x.b.length) = (all.drop (g.1 - 1)).take (visF g x.b.length)

/-- A file behind which another one came. -/
structure MidIs (size : Nat) (x : Fl) (g : Nat × List Bs) : Prop where
  whole : x.b = strB g
  fast : x.fast = x.b.length
  size : size ≤ x.b.length
  ne : g.2 ≠ []
def ChainW (G : Gh) (fs : Nat → Fl) (size F : Nat) : Way → Prop
  | [] => True
  | [e] => F ≤ (G e.2).1 - 1 + visF (G e.2) (fs e.2).fast
  | e :: e' :: w => MidIs size (fs e.2) (G e.2) ∧ (G e'.2).1 = (G e.2).1 + (G e.2).2.length ∧ ChainW G fs size F (e' :: w)
structure WayIs (name : Bs) (all : List Bs) (size F D : Nat) (G : Gh) (fs : Nat → Fl) (w : Way) : Prop where
  names : ∀ e ∈ w, e.1 = fileN name (G e.2).1
  file : ∀ e ∈ w, FileIs all (fs e.2) (G e.2)
  chain : ChainW G fs size F w
  none : w = [] → F = 0
  first : ∀ e, w.head? = some e → (G e.2).1 ≤ D + 1
  one : ∀ e, w = [e] → (G e.2).1 = 1 ∨ (G e.2).1 ≤ F

theorem chain_up {G G' : Gh} {fs fs' : Nat → Fl} {size F : Nat} : ∀ {w : Way}, ChainW G fs size F w →
    (∀ e ∈ w, (G' e.2).1 = (G e.2).1 ∧ (MidIs size (fs e.2) (G e.2) → MidIs size (fs' e.2) (G' e.2) ∧ (G' e.2).2.length = (G e.2).2.length) ∧ visF (G e.2) (fs e.2).fast ≤ visF (G' e.2) (fs' e.2).fast) →
    ChainW G' fs' size F w
  | [], _, _ => trivial
  | [e], h, hm => by
    obtain ⟨h1, _, h3⟩ := hm e (by simp)
    simp only [ChainW] at h ⊢
    rw [h1]
    omega
  | e :: e' :: w, h, hm => by
    obtain ⟨h1, h2, h3⟩ := hm e (by simp)
    obtain ⟨g1, g2, g3⟩ := h
    obtain ⟨h4, h5⟩ := h2 g1
    refine ⟨h4, ?_, chain_up g3 fun x hx => hm x (List.mem_cons_of_mem _ hx)⟩
    rw [(hm e' (by simp)).1, h1, h5, g2]
theorem way_up {name : Bs} {all all' : List Bs} {size F D : Nat} {G G' : Gh} {fs fs' : Nat → Fl} {w : Way} (h : WayIs name all size F D G fs w)
    (hm : ∀ e ∈ w, (G' e.2).1 = (G e.2).1 ∧ (MidIs size (fs e.2) (G e.2) → MidIs size (fs' e.2) (G' e.2) ∧ (G' e.2).2.length = (G e.2).2.length) ∧ visF (G e.2) (fs e.2).fast ≤ visF (G' e.2) (fs' e.2).fast ∧ FileIs all' (fs' e.2) (G' e.2)) :
    WayIs name all' size F D G' fs' w where
  names := fun e he => by rw [(hm e he).1]; exact h.names e he
  file := fun e he => (hm e he).2.2.2
  chain := chain_up h.chain fun e he => ⟨(hm e he).1, (hm e he).2.1, (hm e he).2.2.1⟩
  none := h.none
  first := fun e he => by rw [(hm e (List.mem_of_mem_head? he)).1]; exact h.first e he
  one := fun e he => by
    have : e ∈ w := by rw [he]; simp
    rw [(hm e this).1]; exact h.one e he

theorem FileIs.more {all : List Bs} {x : Fl} {g : Nat × List Bs} (h : FileIs all x g) (r : List Bs) : FileIs (all ++ r) x g where
  pre := h.pre
  fast := h.fast
  short := h.short
  pos := h.pos
  le := by have := h.le; rw [List.length_append]; omega
  same := by
    have h1 := h.le
    have h2 := h.same
    rw [List.drop_append_of_le_length (by omega), List.take_append_of_le_length (by rw [List.length_drop]; omega)]
    exact h2

/-- The numbers of a way's files, rising. -/
theorem chain_nos {G : Gh} {fs : Nat → Fl} {size F : Nat} : ∀ {e : Bs × Nat} {w : Way}, ChainW G fs size F (e :: w) → ∀ x ∈ w, (G e.2).1 < (G x.2).1
  | e, [], _, x, hx => by cases hx
  | e, e' :: w, h, x, hx => by
    obtain ⟨g1, g2, g3⟩ := h
    have hp : 0 < (G e.2).2.length := List.length_pos_iff.2 g1.ne
    rcases List.mem_cons.1 hx with rfl | hx
    · omega
    · have := chain_nos g3 x hx
      omega
theorem chain_tail {G : Gh} {fs : Nat → Fl} {size F : Nat} {e e' : Bs × Nat} {w : Way} (h : ChainW G fs size F (e :: e' :: w)) : ChainW G fs size F (e' :: w) := h.2.2
/-- A further file at the end. -/
theorem chain_snoc {G : Gh} {fs : Nat → Fl} {size F F' : Nat} {z : Bs × Nat} : ∀ {w : Way} {e : Bs × Nat}, ChainW G fs size F (w ++ [e]) → MidIs size (fs e.2) (G e.2) → (G z.2).1 = (G e.2).1 + (G e.2).2.length →
    F' ≤ (G z.2).1 - 1 + visF (G z.2) (fs z.2).fast → ChainW G fs size F' (w ++ [e] ++ [z])
  | [], e, _, hm, hz, hF => ⟨hm, hz, hF⟩
  | [x], e, h, hm, hz, hF => ⟨h.1, h.2.1, hm, hz, hF⟩
  | x :: y :: w, e, h, hm, hz, hF => ⟨h.1, h.2.1, chain_snoc (w := y :: w) h.2.2 hm hz hF⟩
/-- Another end: what is asked of the last file. -/
theorem chain_last {G : Gh} {fs : Nat → Fl} {size F F' : Nat} : ∀ {w : Way} {e : Bs × Nat}, ChainW G fs size F (w ++ [e]) → F' ≤ (G e.2).1 - 1 + visF (G e.2) (fs e.2).fast → ChainW G fs size F' (w ++ [e])
  | [], e, _, hF => hF
  | [x], e, h, hF => ⟨h.1, h.2.1, hF⟩
  | x :: y :: w, e, h, hF => ⟨h.1, h.2.1, chain_last (w := y :: w) h.2.2 hF⟩
theorem chain_end {G : Gh} {fs : Nat → Fl} {size F : Nat} : ∀ {w : Way} {e : Bs × Nat}, ChainW G fs size F (w ++ [e]) → F ≤ (G e.2).1 - 1 + visF (G e.2) (fs e.2).fast
  | [], e, h => h
  | [x], e, h => h.2.2
  | x :: y :: w, e, h => chain_end (w := y :: w) h.2.2
theorem chain_init {G : Gh} {fs : Nat → Fl} {size F F' : Nat} : ∀ {w : Way} {e z : Bs × Nat}, ChainW G fs size F (w ++ [e] ++ [z]) → MidIs size (fs e.2) (G e.2) ∧ (G z.2).1 = (G e.2).1 + (G e.2).2.length ∧ (F' ≤ (G e.2).1 - 1 + visF (G e.2) (fs e.2).fast → ChainW G fs size F' (w ++ [e]))
  | [], e, z, h => ⟨h.1, h.2.1, fun hF => hF⟩
  | [x], e, z, h => ⟨h.2.2.1, h.2.2.2.1, fun hF => ⟨h.1, h.2.1, hF⟩⟩
  | x :: y :: w, e, z, h => by
    obtain ⟨h1, h2, h3⟩ := chain_init (F' := F') (w := y :: w) h.2.2
    exact ⟨h1, h2, fun hF => ⟨h.1, h.2.1, h3 hF⟩⟩

/-- Records from a number on: what the log has in memory. -/
def SegsAre (all : List Bs) : Nat → List Sg → Prop
  | n, [] => n = all.length + 1
  | n, s :: r => s.no = n ∧ s.recs ≠ [] ∧ s.recs <+: all.drop (n - 1) ∧ SegsAre all (n + s.recs.length) r
structure Tale (all : List Bs) (D : Nat) (l : Lg) : Prop where
  last : l.last = all.length
  are : ∃ n, 1 ≤ n ∧ (l.segs = [] → n = 1) ∧ SegsAre all n l.segs ∧ n ≤ D + 1

theorem segs_all {all : List Bs} : ∀ {segs : List Sg} {n : Nat}, 1 ≤ n → SegsAre all n segs → (segs.map fun s => s.recs).flatten = all.drop (n - 1) ∧ n - 1 ≤ all.length
  | [], n, hn, h => by
    simp only [SegsAre] at h
    subst h
    simp
  | s :: r, n, hn, h => by
    obtain ⟨h1, h2, h3, h4⟩ := h
    have hp : 0 < s.recs.length := List.length_pos_iff.2 h2
    obtain ⟨h5, h6⟩ := segs_all (by omega) h4
    obtain ⟨q, hq⟩ := h3
    rw [List.map_cons, List.flatten_cons, h5, ← hq]
    constructor
    · have : all.drop (n + s.recs.length - 1) = q := by
        rw [show n + s.recs.length - 1 = (n - 1) + s.recs.length by omega, ← List.drop_drop, ← hq, List.drop_left]
      rw [this]
    · omega
theorem number_recs : ∀ (r : List Bs) (n : Nat), n + r.length ≤ W64 → numberRecs n r = (List.range r.length).map fun i => (n + i, r[i]?.getD [])
  | [], _, _ => rfl
  | b :: r, n, h => by
    simp only [List.length_cons] at h
    rw [numberRecs, number_recs r (n + 1) (by omega), List.length_cons, List.range_succ_eq_map, List.map_cons, List.map_map]
    rw [Nat.mod_eq_of_lt (by omega)]
    simp only [Nat.add_zero, List.getElem?_cons_zero, Option.getD_some, List.cons.injEq, true_and]
    apply List.map_congr_left
    intro i _
    simp only [Function.comp_apply, List.getElem?_cons_succ, Prod.mk.injEq, and_true]
    omega

end Ab
end Go.Proofs.YtmbbnoipoifhhaaGreatDoor

/-
  DERIVED. A log's disk behind the changes of one call: a record more, a file made fast, a file begun, taken out. In plain Lean.
  Conditions: none of a program's.
-/
namespace Go.Proofs.YtmbbnoipoifhhaaGreatDoor
namespace Ab
set_option linter.all false

def Core (name : Bs) (all : List Bs) (size F D : Nat) (d : Dk) (G : Gh) : Prop := ∀ w ∈ d.ways, WayIs name all size F D G d.file w
theorem Core.same {name : Bs} {all : List Bs} {size F D : Nat} {d d' : Dk} {G : Gh} (h : Core name all size F D d G) (h1 : d'.files = d.files) (h2 : d'.ways = d.ways) : Core name all size F D d' G := by
  intro w hw
  rw [h2] at hw
  have : d'.file = d.file := by funext i; simp [Dk.file, h1]
  rw [this]
  exact h w hw
def updG (G : Gh) (i : Nat) (g : Nat × List Bs) : Gh := fun j => if j = i then g else G j
theorem setF_fileW {d : Dk} {i : Nat} {x : Fl} (hi : i < d.files.length) (j : Nat) : (d.setF i x).file j = if j = i then x else d.file j := by
  unfold Dk.file Dk.setF
  by_cases h : j = i
  · subst h
    simp [hi]
  · rw [if_neg h]
    simp only
    rw [List.getElem?_set_ne (by omega)]
theorem stop1_same (d : Dk) : d.stop1.files = d.files ∧ d.stop1.ways = d.ways ∧ d.stop1.quota = d.quota := by
  unfold Dk.stop1
  repeat' split
  all_goals exact ⟨rfl, rfl, rfl⟩
theorem nowW_mem {d : Dk} (h : d.ways ≠ []) : d.now ∈ d.ways := by
  rw [Dk.now, List.getLastD_eq_getLast?, List.getLast?_eq_some_getLast h]
  exact List.getLast_mem h

/-- A file made fast. -/
theorem core_sync {name : Bs} {all : List Bs} {size F D : Nat} {d : Dk} {G : Gh} {i : Nat} (h : Core name all size F D d G) (hi : i < d.files.length) :
    Core name all size F D (d.setF i ⟨(d.file i).b, (d.file i).b.length⟩) G := by
  intro w hw
  refine way_up (h w hw) fun e he => ?_
  have hf := (h w hw).file e he
  rw [setF_fileW hi]
  by_cases he2 : e.2 = i
  · rw [if_pos he2]
    subst he2
    exact ⟨rfl, fun m => ⟨⟨m.whole, rfl, m.size, m.ne⟩, rfl⟩, visF_mono _ hf.fast, ⟨hf.pre, Nat.le_refl _, hf.short, hf.pos, hf.le, hf.same⟩⟩
  · rw [if_neg he2]
    exact ⟨rfl, fun m => ⟨m, rfl⟩, Nat.le_refl _, hf⟩

/-- Bytes of a further record, all of them or some, behind a file that is whole and short of its size. -/
theorem core_put {name : Bs} {all all' : List Bs} {size F D : Nat} {d : Dk} {G : Gh} {i : Nat} {r p : Bs} (h : Core name all size F D d G) (hi : i < d.files.length)
    (hw : (d.file i).b = strB (G i)) (hs : (d.file i).b.length < size) (hr : r.length ≤ maxM) (hp : p <+: recB ((G i).1 + (G i).2.length) r)
    (hend : (G i).1 - 1 + (G i).2.length = all.length)
    (ha : (p = recB ((G i).1 + (G i).2.length) r ∧ all' = all ++ [r]) ∨ (p.length < r.length + 12 ∧ all' = all)) :
    Core name all' size F D (d.setF i ⟨(d.file i).b ++ p, (d.file i).fast⟩) (updG G i ((G i).1, (G i).2 ++ [r])) := by
  intro w hw'
  refine way_up (h w hw') fun e he => ?_
  have hf := (h w hw').file e he
  rw [setF_fileW hi]
  unfold updG
  by_cases he2 : e.2 = i
  · rw [if_pos he2, if_pos he2]
    subst he2
    refine ⟨rfl, fun m => absurd m.size (by omega), vis_more _ _ _, ?_⟩
    have hlen : (d.file e.2).b.length = 24 + recsN (G e.2).2 := by rw [hw, str_len]
    have hall : (d.file e.2).b ++ p <+: strB ((G e.2).1, (G e.2).2 ++ [r]) := by
      rw [hw]
      show headB (G e.2).1 ++ recsB (G e.2).1 (G e.2).2 ++ p <+: headB (G e.2).1 ++ recsB (G e.2).1 ((G e.2).2 ++ [r])
      rw [recs_app, ← List.append_assoc, List.prefix_append_right_inj]
      simpa [recsB] using hp
    have hsm := hf.same
    have hvi : visF (G e.2) (d.file e.2).b.length = (G e.2).2.length := by rw [hw]; exact visF_all _
    rw [hvi, List.take_length] at hsm
    have hdr : all.drop ((G e.2).1 - 1) = (G e.2).2 := by
      rw [hsm, List.take_of_length_le]
      rw [List.length_drop]
      omega
    refine ⟨hall, ?_, ?_, hf.pos, ?_, ?_⟩
    · have := hf.fast
      simp only [List.length_append]; omega
    · intro b hb
      rcases List.mem_append.1 hb with hb | hb
      · exact hf.short b hb
      · rw [List.mem_singleton.1 hb]; exact hr
    all_goals
      rcases ha with ⟨rfl, rfl⟩ | ⟨hlt, rfl⟩
    · have : visF ((G e.2).1, (G e.2).2 ++ [r]) ((d.file e.2).b ++ recB ((G e.2).1 + (G e.2).2.length) r).length ≤ (G e.2).2.length + 1 := by
        have := visF_le ((G e.2).1, (G e.2).2 ++ [r]) ((d.file e.2).b ++ recB ((G e.2).1 + (G e.2).2.length) r).length
        simpa using this
      simp only [List.length_append, List.length_singleton] at this ⊢
      omega
    · have hv : visF ((G e.2).1, (G e.2).2 ++ [r]) ((d.file e.2).b ++ p).length = (G e.2).2.length := by
        rw [visF, vis_app]
        · exact vis_all _ _ (by simp only [List.length_append]; omega)
        · simp only [List.length_append]; omega
      rw [hv]
      show (G e.2).1 - 1 + (G e.2).2.length ≤ _
      omega
    · have hv : visF ((G e.2).1, (G e.2).2 ++ [r]) ((d.file e.2).b ++ recB ((G e.2).1 + (G e.2).2.length) r).length = (G e.2).2.length + 1 := by
        rw [visF, vis_all]
        · simp
        · rw [recsN_app, List.length_append, rec_len, hlen]
          simp only [recsN]
          omega
      rw [hv]
      show ((G e.2).2 ++ [r]).take ((G e.2).2.length + 1) = _
      show _ = ((_ ++ [r]).drop ((G e.2).1 - 1)).take _
      rw [List.drop_append_of_le_length (by omega), hdr]
    · have hv : visF ((G e.2).1, (G e.2).2 ++ [r]) ((d.file e.2).b ++ p).length = (G e.2).2.length := by
        rw [visF, vis_app]
        · exact vis_all _ _ (by simp only [List.length_append]; omega)
        · simp only [List.length_append]; omega
      rw [hv]
      show ((G e.2).2 ++ [r]).take _ = (List.drop ((G e.2).1 - 1) _).take _
      rw [hdr, List.take_left, List.take_length]
  · rw [if_neg he2, if_neg he2]
    refine ⟨rfl, fun m => ⟨m, rfl⟩, Nat.le_refl _, ?_⟩
    rcases ha with ⟨_, rfl⟩ | ⟨_, rfl⟩
    · exact hf.more [r]
    · exact hf

/-- A way more. -/
theorem core_with {name : Bs} {all : List Bs} {size F D : Nat} {d : Dk} {G : Gh} {w : Way} (h : Core name all size F D d G) (hw : WayIs name all size F D G d.file w) : Core name all size F D (d.with w) G := by
  intro v hv
  rcases List.mem_append.1 hv with hv | hv
  · exact h v hv
  · rw [List.mem_singleton.1 hv]; exact hw
/-- The names as they are stand fast. -/
theorem core_names {name : Bs} {all : List Bs} {size F D : Nat} {d : Dk} {G : Gh} (h : Core name all size F D d G) (hne : d.ways ≠ []) : Core name all size F D { d with ways := [d.now] } G := by
  intro v hv
  rw [List.mem_singleton.1 hv]
  exact h _ (nowW_mem hne)
theorem WayIs.fastUp {name : Bs} {all : List Bs} {size F F' D : Nat} {G : Gh} {fs : Nat → Fl} {w : Way} (h : WayIs name all size F D G fs w) (hF : F ≤ F')
    (he : ∀ w' e, w = w' ++ [e] → F' ≤ (G e.2).1 - 1 + visF (G e.2) (fs e.2).fast) (hn : w = [] → F' = 0) : WayIs name all size F' D G fs w where
  names := h.names
  file := h.file
  chain := by
    rcases List.eq_nil_or_concat w with rfl | ⟨w', e, rfl⟩
    · trivial
    · rw [List.concat_eq_append] at *
      exact chain_last h.chain (he w' e rfl)
  none := hn
  first := h.first
  one := fun e h1 => (h.one e h1).imp id fun h2 => Nat.le_trans h2 hF
theorem WayIs.dropUp {name : Bs} {all : List Bs} {size F D D' : Nat} {G : Gh} {fs : Nat → Fl} {w : Way} (h : WayIs name all size F D G fs w) (hD : D ≤ D') : WayIs name all size F D' G fs w :=
  { h with first := fun e h1 => Nat.le_trans (h.first e h1) (by omega) }

/-- A file begun behind those that are there. -/
theorem core_create {name : Bs} {all : List Bs} {size F D : Nat} {d : Dk} {G : Gh} {r : Bs} (h : Core name all size F D d G) (hne : d.ways ≠ []) (hidx : ∀ w ∈ d.ways, ∀ e ∈ w, e.2 < d.files.length) (hr : r.length ≤ maxM)
    (hF : F ≤ all.length) (hnil : d.now = [] → all = [])
    (hlast : ∀ w e, d.now = w ++ [e] → MidIs size (d.file e.2) (G e.2) ∧ (G e.2).1 - 1 + (G e.2).2.length = all.length) :
    Core name all size F D (Dk.with { d with files := d.files ++ [⟨[], 0⟩] } (d.now ++ [(fileN name (all.length + 1), d.files.length)])) (updG G d.files.length (all.length + 1, [r])) := by
  have hfile : ∀ j, j < d.files.length → Dk.file (Dk.with { d with files := d.files ++ [⟨[], 0⟩] } (d.now ++ [(fileN name (all.length + 1), d.files.length)])) j = d.file j := by
    intro j hj
    simp only [Dk.file, Dk.with]
    rw [List.getElem?_append_left hj]
  have hnew : Dk.file (Dk.with { d with files := d.files ++ [⟨[], 0⟩] } (d.now ++ [(fileN name (all.length + 1), d.files.length)])) d.files.length = ⟨[], 0⟩ := by
    simp [Dk.file, Dk.with]
  have hold : ∀ w ∈ d.ways, WayIs name all size F D (updG G d.files.length (all.length + 1, [r])) (Dk.file (Dk.with { d with files := d.files ++ [⟨[], 0⟩] } (d.now ++ [(fileN name (all.length + 1), d.files.length)]))) w := by
    intro w hw
    refine way_up (h w hw) fun e he => ?_
    have hl := hidx w hw e he
    have hf := (h w hw).file e he
    rw [hfile _ hl, updG, if_neg (by omega)]
    exact ⟨rfl, fun m => ⟨m, rfl⟩, Nat.le_refl _, hf⟩
  intro w hw
  rcases List.mem_append.1 hw with hw | hw
  · exact hold w hw
  · rw [List.mem_singleton.1 hw]
    have hn := hold _ (nowW_mem hne)
    have hG : updG G d.files.length (all.length + 1, [r]) d.files.length = (all.length + 1, [r]) := by simp [updG]
    have hz : FileIs all ⟨[], 0⟩ (all.length + 1, [r]) := by
      have hv : visF (all.length + 1, [r]) ([] : Bs).length = 0 := by simp [visF, visR]
      refine ⟨List.nil_prefix, Nat.le_refl _, fun b hb => by rw [List.mem_singleton.1 hb]; exact hr, Nat.le_add_left _ _, ?_, ?_⟩
      · rw [hv]; simp
      · rw [hv]; simp
    refine ⟨?_, ?_, ?_, fun h1 => by simp at h1, ?_, ?_⟩
    · intro e he
      rcases List.mem_append.1 he with he | he
      · exact hn.names e he
      · rw [List.mem_singleton.1 he]; simp [hG]
    · intro e he
      rcases List.mem_append.1 he with he | he
      · exact hn.file e he
      · rw [List.mem_singleton.1 he, hnew, hG]; exact hz
    · rcases List.eq_nil_or_concat d.now with h0 | ⟨w', e, h0⟩
      · rw [h0]
        show F ≤ _
        simp only [hG]
        omega
      · rw [List.concat_eq_append] at h0
        obtain ⟨m, me⟩ := hlast w' e h0
        have hl : e.2 < d.files.length := hidx _ (nowW_mem hne) e (by rw [h0]; simp)
        have hge : updG G d.files.length (all.length + 1, [r]) e.2 = G e.2 := by rw [updG, if_neg (by omega)]
        have hpos := ((h _ (nowW_mem hne)).file e (by rw [h0]; simp)).pos
        have hc := hn.chain
        rw [h0] at hc ⊢
        rw [h0] at hfile hnew
        refine chain_snoc hc ?_ ?_ ?_
        · rw [hfile _ hl, hge]; exact m
        · simp only [hG, hge]; omega
        · simp only [hG]; omega
    · intro e he
      cases h0 : d.now with
      | nil =>
        rw [h0] at he
        simp at he
        subst he
        simp only [hG]
        rw [hnil h0]
        simp
      | cons x y =>
        rw [h0] at he
        simp at he
        subst he
        exact hn.first x (by rw [h0]; rfl)
    · intro e he
      have h0 : d.now = [] := by
        have := congrArg List.length he
        simp at this
        exact this
      rw [h0] at he
      simp at he
      subst he
      left
      simp only [hG]
      rw [hnil h0]
      rfl

end Ab
end Go.Proofs.YtmbbnoipoifhhaaGreatDoor

/-
  DERIVED. What always holds of a log holds behind an append. In plain Lean.
  Conditions: none of a program's.
-/

namespace Go.Proofs.YtmbbnoipoifhhaaGreatDoor
namespace Ab
set_option linter.all false

def sgOf (g : Nat × List Bs) : Sg := ⟨g.1, g.2, 24 + recsN g.2⟩
structure Live (l : Lg) (d : Dk) (G : Gh) : Prop where
  dead : d.dead = false
  segs : l.segs = d.now.map fun e => sgOf (G e.2)
  whole : ∀ e ∈ d.now, (d.file e.2).b = strB (G e.2) ∧ (G e.2).2 ≠ []
def Gone (l : Lg) (d : Dk) : Prop := d.dead = true ∧ ∀ s ∈ l.segs, ∃ i, findW d.now (fileN l.name s.no) = some i
structure LInv (n : Nat) (all : List Bs) (D : Nat) (l : Lg) (d : Dk) : Prop where
  inv : d.Inv n
  named : namedN l.name = true
  few : all.length ≤ n
  tale : Tale all D l
  fast : l.fast ≤ all.length
  is : ∃ G, Core l.name all l.size l.fast D d G ∧ (Live l d G ∨ Gone l d)

theorem LInv.mono {n m : Nat} {all : List Bs} {D : Nat} {l : Lg} {d : Dk} (h : LInv n all D l d) (hm : n ≤ m) : LInv m all D l d :=
  { h with inv := h.inv.mono hm, few := Nat.le_trans h.few hm }

theorem segs_snoc {all : List Bs} : ∀ {a : List Sg} {s : Sg} {n : Nat}, SegsAre all n (a ++ [s]) → s.no + s.recs.length = all.length + 1 ∧ s.recs ≠ [] ∧ n ≤ s.no ∧ s.recs = all.drop (s.no - 1)
  | [], s, n, h => by
    obtain ⟨h1, h2, h3, h4⟩ := h
    simp only [SegsAre] at h4
    refine ⟨by omega, h2, by omega, ?_⟩
    subst h1
    obtain ⟨q, hq⟩ := h3
    have hp : 0 < s.recs.length := List.length_pos_iff.2 h2
    have : q = [] := by
      have := congrArg List.length hq
      rw [List.length_append, List.length_drop] at this
      exact List.length_eq_zero_iff.1 (by omega)
    rw [this, List.append_nil] at hq
    exact hq
  | x :: a, s, n, h => by
    obtain ⟨h1, h2, h3, h4⟩ := h
    obtain ⟨g1, g2, g3, g4⟩ := segs_snoc h4
    exact ⟨g1, g2, by omega, g4⟩
/-- A record more in the last file. -/
theorem segs_takes {all : List Bs} {b : Bs} : ∀ {a : List Sg} {s : Sg} {n : Nat}, 1 ≤ n → SegsAre all n (a ++ [s]) → SegsAre (all ++ [b]) n (a ++ [s.takes b])
  | [], s, n, hn, h => by
    obtain ⟨g1, g2, g3, g4⟩ := segs_snoc (a := []) h
    obtain ⟨h1, h2, h3, h4⟩ := h
    refine ⟨h1, by simp [Sg.takes], ?_, ?_⟩
    · have hp : 0 < s.recs.length := List.length_pos_iff.2 h2
      rw [List.drop_append_of_le_length (by omega), ← h1, ← g4]
      exact ⟨[], by simp [Sg.takes]⟩
    · simp only [SegsAre, Sg.takes, List.length_append, List.length_singleton] at h4 ⊢
      omega
  | x :: a, s, n, hn, h => by
    obtain ⟨h1, h2, h3, h4⟩ := h
    have hp : 0 < x.recs.length := List.length_pos_iff.2 h2
    have h5 := segs_takes (b := b) (a := a) (by omega) h4
    have h6 := segs_snoc h4
    have hp2 : 0 < s.recs.length := List.length_pos_iff.2 h6.2.1
    refine ⟨h1, h2, ?_, h5⟩
    obtain ⟨q, hq⟩ := h3
    rw [List.drop_append_of_le_length (by omega), ← hq, List.append_assoc]
    exact ⟨_, rfl⟩
/-- A file more. -/
theorem segs_begins {all : List Bs} {b : Bs} : ∀ {a : List Sg} {n : Nat}, 1 ≤ n → SegsAre all n a → SegsAre (all ++ [b]) n (a ++ [Sg.takes ⟨all.length + 1, [], 24⟩ b])
  | [], n, hn, h => by
    simp only [SegsAre] at h
    subst h
    refine ⟨rfl, by simp [Sg.takes], ?_, ?_⟩
    · simp [Sg.takes]
    · simp [SegsAre, Sg.takes]
  | x :: a, n, hn, h => by
    obtain ⟨h1, h2, h3, h4⟩ := h
    have hp : 0 < x.recs.length := List.length_pos_iff.2 h2
    have h5 := segs_begins (b := b) (a := a) (by omega) h4
    have hle := (segs_all (by omega) h4).2
    refine ⟨h1, h2, ?_, h5⟩
    obtain ⟨q, hq⟩ := h3
    rw [List.drop_append_of_le_length (by omega), ← hq, List.append_assoc]
    exact ⟨_, rfl⟩

theorem at_find {d : Dk} {s : Bs} {i : Nat} {f : Nat → Int × Dk} (hn : nameOk s = true) (hf : findW d.now s = some i) : d.at s f = f i := by
  simp [Dk.at, hn, hf]
theorem look_find {d : Dk} {s : Bs} {i : Nat} (hn : nameOk s = true) (hf : findW d.now s = some i) : d.look s = (0, some (d.file i)) := by
  simp [Dk.look, hn, hf]
theorem goes_dead {d : Dk} {f : Dk → Dk} (h : d.dead = true) : d.goes f = (44, d) := by
  simp [Dk.goes, Dk.stops, Dk.stop1, h]
theorem at_dead {d : Dk} {s : Bs} {f : Nat → Int × Dk} (h : ∀ i, (f i).1 ≠ 0 ∧ (f i).2 = d) : (d.at s f).1 ≠ 0 ∧ (d.at s f).2 = d := by
  unfold Dk.at
  split
  · exact ⟨by simp, rfl⟩
  · split
    · exact ⟨by simp, rfl⟩
    · exact h _
theorem append_dead {d : Dk} {s b : Bs} (h : d.dead = true) : (d.append s b).1 ≠ 0 ∧ (d.append s b).2 = d := by
  refine at_dead fun i => ?_
  simp only [h, if_true]
  split <;> simp
theorem sync_dead {d : Dk} {s : Bs} (h : d.dead = true) : (d.sync s).1 ≠ 0 ∧ (d.sync s).2 = d := at_dead fun i => by rw [goes_dead h]; simp
theorem remove_dead {d : Dk} {s : Bs} (h : d.dead = true) : (d.remove s).1 ≠ 0 ∧ (d.remove s).2 = d := at_dead fun i => by rw [goes_dead h]; simp
theorem create_dead {d : Dk} {s : Bs} (h : d.dead = true) : (d.create s).1 ≠ 0 ∧ (d.create s).2 = d := by
  unfold Dk.create
  rw [goes_dead h]
  repeat' split
  all_goals simp

/-- A change while the disk is alive: it stops, or it is done. -/
theorem goes_live {d : Dk} {f : Dk → Dk} (h : d.dead = false) : (d.left = 1 ∧ d.goes f = (44, { d with dead := true })) ∨ (d.left ≠ 1 ∧ d.goes f = (0, f d.stop1) ∧ d.stop1.dead = false) := by
  by_cases hl : d.left = 1
  · left
    simp [Dk.goes, Dk.stops, Dk.stop1, h, hl]
  · right
    refine ⟨hl, by simp [Dk.goes, Dk.stops, h, hl], ?_⟩
    unfold Dk.stop1
    simp only [h, hl, if_false, Bool.false_eq_true]
    split <;> simp [h]

theorem live_found {name : Bs} {all : List Bs} {size F D n : Nat} {l : Lg} {d : Dk} {G : Gh} (hI : d.Inv n) (hc : Core name all size F D d G) (hl : Live l d G) (hn : name = l.name) : ∀ s ∈ l.segs, ∃ i, findW d.now (fileN l.name s.no) = some i := by
  intro s hs
  rw [hl.segs, List.mem_map] at hs
  obtain ⟨e, he, rfl⟩ := hs
  have h1 := (hc _ (nowW_mem hI.ne)).names e he
  have h2 := rising_find (hI.way _ (nowW_mem hI.ne)).2.1 he
  rw [h1, hn] at h2
  exact ⟨_, h2⟩
/-- The disk stops; nothing of its files' and names changes. -/
theorem LInv.dies {n : Nat} {all : List Bs} {D : Nat} {l : Lg} {d d' : Dk} {G : Gh} (h : LInv n all D l d) (hc : Core l.name all l.size l.fast D d' G) (hl : ∀ s ∈ l.segs, ∃ i, findW d'.now (fileN l.name s.no) = some i) (hd : d'.dead = true) {m : Nat} (hI : d'.Inv m) (hm : n ≤ m) : LInv m all D l d' :=
  ⟨hI, h.named, Nat.le_trans h.few hm, h.tale, h.fast, G, hc, .inr ⟨hd, hl⟩⟩

/-- Where the last file of a living log is. -/
theorem live_last {n : Nat} {all : List Bs} {D : Nat} {l : Lg} {d : Dk} {G : Gh} (h : LInv n all D l d) (hl : Live l d G) (hc : Core l.name all l.size l.fast D d G) {s : Sg} (hs : l.segs.getLast? = some s) :
    ∃ w e, d.now = w ++ [e] ∧ s = sgOf (G e.2) ∧ l.segs.dropLast = w.map (fun e => sgOf (G e.2)) ∧ findW d.now (fileN l.name s.no) = some e.2 ∧ e.2 < d.files.length ∧ (G e.2).1 + (G e.2).2.length = all.length + 1 ∧ (∀ x ∈ w, x.2 ≠ e.2 ∧ (G x.2).1 < (G e.2).1) ∧ nameOk (fileN l.name s.no) = true := by
  rcases List.eq_nil_or_concat d.now with h0 | ⟨w, e, h0⟩
  · rw [hl.segs, h0] at hs; simp at hs
  · rw [List.concat_eq_append] at h0
    have hmem : e ∈ d.now := by rw [h0]; simp
    have hsg : l.segs = w.map (fun e => sgOf (G e.2)) ++ [sgOf (G e.2)] := by rw [hl.segs, h0]; simp
    rw [hsg] at hs
    simp at hs
    subst hs
    obtain ⟨k, hk, _, hsa, _⟩ := h.tale.are
    rw [hsg] at hsa
    have hse := segs_snoc hsa
    have hnames := (hc _ (nowW_mem h.inv.ne)).names e hmem
    have hfd := rising_find (h.inv.way _ (nowW_mem h.inv.ne)).2.1 hmem
    refine ⟨w, e, h0, rfl, by rw [hsg]; simp, ?_, ((h.inv.way _ (nowW_mem h.inv.ne)).2.2 e hmem).1, hse.1, ?_, nameOk_file h.named _⟩
    · rw [hnames] at hfd; exact hfd
    · intro x hx
      have hlt : (G x.2).1 < (G e.2).1 := by
        have hch := (hc _ (nowW_mem h.inv.ne)).chain
        rw [h0] at hch
        clear hsg hsa hse hfd hnames h0 hmem
        induction w with
        | nil => cases hx
        | cons y w ih =>
          rcases List.mem_cons.1 hx with rfl | hx
          · exact chain_nos hch e (by simp)
          · refine ih hx ?_
            cases w with
            | nil => cases hx
            | cons z w => exact chain_tail hch
      refine ⟨fun he => ?_, hlt⟩
      rw [he] at hlt
      omega

end Ab
end Go.Proofs.YtmbbnoipoifhhaaGreatDoor

/-
  DERIVED. What always holds of a log holds behind an append. In plain Lean.
  Conditions: none of a program's.
-/
namespace Go.Proofs.YtmbbnoipoifhhaaGreatDoor
namespace Ab
set_option linter.all false

theorem append_live {d : Dk} {s b : Bs} {i : Nat} (hn : nameOk s = true) (hf : findW d.now s = some i) (h : d.dead = false) :
    (d.append s b = (42, d)) ∨ (d.append s b = (44, ({ d with dead := true } : Dk).put i (b.take (b.length / 2)))) ∨ (d.append s b = (0, d.stop1.put i b) ∧ d.stop1.dead = false) := by
  rw [Dk.append, at_find hn hf]
  split
  · exact .inl rfl
  · rw [if_neg (by simp [h])]
    split
    · rename_i hl
      right; left
      rw [show d.stop1 = { d with dead := true } by simp [Dk.stop1, h, hl]]
    · rename_i hl
      right; right
      refine ⟨rfl, ?_⟩
      unfold Dk.stop1
      simp only [h, hl, if_false, Bool.false_eq_true]
      split <;> simp [h]

/-- The bytes of a file that was begun. -/
theorem core_fill {name : Bs} {all all' : List Bs} {size F D : Nat} {d : Dk} {G : Gh} {i : Nat} {r p : Bs} (h : Core name all size F D d G) (hi : i < d.files.length)
    (hw : d.file i = ⟨[], 0⟩) (hG : G i = (all.length + 1, [r])) (hr : r.length ≤ maxM) (hp : p <+: strB (all.length + 1, [r]))
    (ha : (p = strB (all.length + 1, [r]) ∧ all' = all ++ [r]) ∨ (p.length < 36 + r.length ∧ all' = all)) :
    Core name all' size F D (d.setF i ⟨p, 0⟩) G := by
  intro w hw'
  refine way_up (h w hw') fun e he => ?_
  have hf := (h w hw').file e he
  rw [setF_fileW hi]
  by_cases he2 : e.2 = i
  · rw [if_pos he2]
    subst he2
    refine ⟨rfl, fun m => ?_, by rw [hw]; exact Nat.le_refl _, ?_⟩
    · have := congrArg List.length m.whole
      rw [hw, str_len] at this
      simp at this
      omega
    · rw [hG]
      refine ⟨hp, Nat.zero_le _, fun b hb => by rw [List.mem_singleton.1 hb]; exact hr, Nat.le_add_left _ _, ?_, ?_⟩
      all_goals rcases ha with ⟨rfl, rfl⟩ | ⟨hlt, rfl⟩
      · rw [visF_all]; simp
      · rw [show visF (all'.length + 1, [r]) p.length = 0 by simp only [visF, visR]; rw [if_pos (by omega)]]
        simp
      · rw [visF_all]; simp
      · rw [show visF (all'.length + 1, [r]) p.length = 0 by simp only [visF, visR]; rw [if_pos (by omega)]]
        simp
  · rw [if_neg he2]
    refine ⟨rfl, fun m => ⟨m, rfl⟩, Nat.le_refl _, ?_⟩
    rcases ha with ⟨_, rfl⟩ | ⟨_, rfl⟩
    · exact hf.more [r]
    · exact hf

theorem stop1_nowW (d : Dk) : d.stop1.now = d.now := by rw [Dk.now, (stop1_same d).2.1, Dk.now]
theorem stop1_fileW (d : Dk) : d.stop1.file = d.file := by funext i; simp [Dk.file, (stop1_same d).1]
theorem with_nowW (d : Dk) (w : Way) : (d.with w).now = w := by simp [Dk.now, Dk.with]

/-- A living log stays one, when only the last file's bytes stand fast. -/
theorem Live.to {l : Lg} {d d' : Dk} {G : Gh} (h : Live l d G) (hd : d'.dead = false) (hn : d'.now = d.now) (hb : ∀ e ∈ d.now, (d'.file e.2).b = (d.file e.2).b) : Live l d' G :=
  ⟨hd, by rw [hn]; exact h.segs, fun e he => by rw [hn] at he; rw [hb e he]; exact h.whole e he⟩

def SyncOk (n : Nat) (all : List Bs) (D : Nat) (l : Lg) (d : Dk) (G : Gh) (r : Int × Dk) : Prop :=
  (r.1 = 44 ∧ LInv (n + 1) all D l r.2 ∧ r.2.dead = true) ∨
  (r.1 = 0 ∧ r.2.Inv (n + 1) ∧ Core l.name all l.size l.fast D r.2 G ∧ Live l r.2 G ∧ r.2.now = d.now ∧ r.2.ways = d.ways ∧ (∀ j, (r.2.file j).b = (d.file j).b) ∧ ∀ w e, r.2.now = w ++ [e] → (r.2.file e.2).fast = (r.2.file e.2).b.length)
/-- The last file made fast. -/
theorem sync_last {n : Nat} {all : List Bs} {D : Nat} {l : Lg} {d : Dk} {G : Gh} (h : LInv n all D l d) (hl : Live l d G) (hc : Core l.name all l.size l.fast D d G) : SyncOk n all D l d G (syncLast l d) := by
  unfold syncLast
  cases hs : l.segs.getLast? with
  | none =>
    have h0 : d.now = [] := by
      have := hl.segs
      rw [List.getLast?_eq_none_iff.1 hs] at this
      simpa using this.symm
    right
    refine ⟨rfl, h.inv.mono (by omega), hc, hl, rfl, rfl, fun _ => rfl, fun w e he => ?_⟩
    rw [h0] at he
    simp at he
  | some s =>
    obtain ⟨w, e, hw, rfl, hdl, hfd, hi, hend, hx, hno⟩ := live_last h hl hc hs
    have hI := h.inv.sync (fileN l.name (sgOf (G e.2)).no)
    have hfnd := live_found h.inv hc hl rfl
    simp only
    rw [Dk.sync, at_find hno hfd] at hI ⊢
    rcases goes_live (f := fun d => d.setF e.2 ⟨(d.file e.2).b, (d.file e.2).b.length⟩) hl.dead with ⟨h1, h2⟩ | ⟨h1, h2, h3⟩
    · rw [h2] at hI ⊢
      exact .inl ⟨rfl, h.dies (d' := { d with dead := true }) (G := G) (hc.same rfl rfl) hfnd rfl hI (by omega), rfl⟩
    · rw [h2] at hI ⊢
      have hi' : e.2 < d.stop1.files.length := by rw [(stop1_same d).1]; exact hi
      have hb : ∀ j, ((d.stop1.setF e.2 ⟨(d.stop1.file e.2).b, (d.stop1.file e.2).b.length⟩).file j).b = (d.file j).b := by
        intro j
        rw [setF_fileW hi', stop1_fileW]
        split
        · rename_i hj; rw [hj]
        · rfl
      right
      refine ⟨rfl, hI, core_sync (hc.same (stop1_same d).1 (stop1_same d).2.1) hi', hl.to h3 (stop1_nowW d) (fun x _ => hb x.2), stop1_nowW d, (stop1_same d).2.1, hb, ?_⟩
      intro w' e' he'
      have he2 : e' = e := by
        have : d.stop1.now = w' ++ [e'] := he'
        rw [stop1_nowW, hw] at this
        exact (List.append_inj_right' this rfl |> List.singleton_inj.1).symm
      subst he2
      show ((d.stop1.setF e'.2 _).file e'.2).fast = _
      rw [setF_fileW hi', if_pos rfl]

end Ab
end Go.Proofs.YtmbbnoipoifhhaaGreatDoor

/-
  DERIVED. What always holds of a log holds behind an append. In plain Lean.
  Conditions: none of a program's.
-/
namespace Go.Proofs.YtmbbnoipoifhhaaGreatDoor
namespace Ab
set_option linter.all false

theorem core_upd {name : Bs} {all : List Bs} {size F D : Nat} {d : Dk} {G : Gh} {w : Way} (h : Core name all size F D d G) (hw : w ∈ d.ways) : Core name all size F D (d.with w) G := core_with h (h w hw)

/-- A file begun, filled or taken out again: behind the last one made fast. -/
theorem begun {n : Nat} {all : List Bs} {D : Nat} {l : Lg} {d : Dk} {G : Gh} (h : LInv n all D l d) (hn : n + 2 < W64) (hl : Live l d G) (hc : Core l.name all l.size l.fast D d G)
    (hfull : ∀ w e, d.now = w ++ [e] → (d.file e.2).fast = (d.file e.2).b.length ∧ l.size ≤ (d.file e.2).b.length) {b : Bs} (hb : b.length ≤ maxM) {r1 : Int × Dk} (e1 : r1 = d.create (fileN l.name (all.length + 1)))
    {r2 : Int × Dk} (e2 : r2 = r1.2.append (fileN l.name (all.length + 1)) (headB (all.length + 1) ++ recB (all.length + 1) b)) {r3 : Int × Dk} (e3 : r3 = r2.2.remove (fileN l.name (all.length + 1))) :
    (r1.1 ≠ 0 ∧ LInv (n + 1) all D l r1.2) ∨ (r1.1 = 0 ∧ r2.1 ≠ 0 ∧ LInv (n + 3) all D l r3.2) ∨
    (r1.1 = 0 ∧ r2.1 = 0 ∧ LInv (n + 3) (all ++ [b]) D { l with segs := l.segs ++ [Sg.takes ⟨all.length + 1, [], 24⟩ b], last := l.last + 1 } r2.2) := by
  have hne := h.inv.ne
  have hnow := hc _ (nowW_mem hne)
  have hno : nameOk (fileN l.name (all.length + 1)) = true := nameOk_file h.named _
  have hI1 := h.inv.create (fileN l.name (all.length + 1))
  have hfnd := live_found h.inv hc hl rfl
  have hfew := h.few
  obtain ⟨k, hk, hk0, hsa, hkD⟩ := h.tale.are
  -- the numbers that are there
  have hlt : ∀ e ∈ d.now, (G e.2).1 < all.length + 1 := by
    intro e he
    have hf := hnow.file e he
    have hw := hl.whole e he
    have hp : 0 < (G e.2).2.length := List.length_pos_iff.2 hw.2
    have := hf.le
    rw [hw.1, visF_all] at this
    have := hf.pos
    omega
  have hnames : ∀ e ∈ d.now, ltB e.1 (fileN l.name (all.length + 1)) = true := by
    intro e he
    have := hlt e he
    rw [hnow.names e he, file_lt (by omega) (by omega)]
    simpa using this
  have hfn : findW d.now (fileN l.name (all.length + 1)) = none := findW_none fun e he => by
    rw [hnow.names e he]
    intro h1
    have := hlt e he
    have := file_inj (by omega) (by omega) h1
    omega
  have hne' : ∀ e ∈ d.now, e.1 ≠ fileN l.name (all.length + 1) := fun e he h1 => by
    have := rising_find (h.inv.way _ (nowW_mem hne)).2.1 he
    rw [h1, hfn] at this
    cases this
  have hnil : d.now = [] → all = [] := by
    intro h0
    have h1 : l.segs = [] := by rw [hl.segs, h0]; rfl
    rw [h1] at hsa
    simp only [SegsAre] at hsa
    have := hk0 h1
    exact List.length_eq_zero_iff.1 (by omega)
  have hlast : ∀ w e, d.now = w ++ [e] → MidIs l.size (d.file e.2) (G e.2) ∧ (G e.2).1 - 1 + (G e.2).2.length = all.length := by
    intro w e hw
    have hmem : e ∈ d.now := by rw [hw]; simp
    obtain ⟨f1, f2⟩ := hfull w e hw
    obtain ⟨g1, g2⟩ := hl.whole e hmem
    have hpos := (hnow.file e hmem).pos
    have hs : l.segs.getLast? = some (sgOf (G e.2)) := by rw [hl.segs, hw]; simp
    obtain ⟨w', e', hw', hs', _, _, _, hend, _⟩ := live_last h hl hc hs
    have he : e' = e := by
      rw [hw] at hw'
      exact (List.singleton_inj.1 (List.append_inj_right' hw' rfl)).symm
    subst he
    exact ⟨⟨g1, f1, f2, g2⟩, by omega⟩
  have hidx : ∀ w ∈ d.ways, ∀ e ∈ w, e.2 < d.files.length := fun w hw e he => ((h.inv.way w hw).2.2 e he).1
  subst e1
  rw [Dk.create] at hI1 ⊢ e2
  simp only [hno, Bool.not_true, Bool.false_eq_true, if_false, hfn, Option.isSome_none] at hI1 ⊢ e2
  by_cases h64 : 64 ≤ d.now.length
  · rw [if_pos h64] at hI1 ⊢
    exact .inl ⟨by simp, h.mono (by omega)⟩
  rw [if_neg h64] at hI1 ⊢ e2
  rcases goes_live (f := fun d => Dk.with { d with files := d.files ++ [⟨[], 0⟩] } (insW d.now (fileN l.name (all.length + 1)) d.files.length)) hl.dead with ⟨_, g2⟩ | ⟨_, g2, g3⟩
  · rw [g2] at hI1 ⊢
    exact .inl ⟨by simp, h.dies (d' := { d with dead := true }) (G := G) (hc.same rfl rfl) hfnd rfl hI1 (by omega)⟩
  right
  rw [g2] at hI1 ⊢ e2
  -- the disk with the new file
  simp only [stop1_nowW] at hI1 e2 ⊢
  rw [(stop1_same d).1, ins_end hnames] at hI1 e2
  have hc2 := core_create (d := d.stop1) (r := b) (hc.same (stop1_same d).1 (stop1_same d).2.1) (by rw [(stop1_same d).2.1]; exact hne) (by rw [(stop1_same d).1, (stop1_same d).2.1]; exact hidx) hb h.fast (by rw [stop1_nowW]; exact hnil) (by rw [stop1_nowW, stop1_fileW]; exact hlast)
  rw [stop1_nowW, (stop1_same d).1] at hc2
  generalize hd2 : Dk.with { d.stop1 with files := d.files ++ [⟨[], 0⟩] } (d.now ++ [(fileN l.name (all.length + 1), d.files.length)]) = d2 at hI1 e2 hc2 ⊢
  have hd2now : d2.now = d.now ++ [(fileN l.name (all.length + 1), d.files.length)] := by rw [← hd2, with_nowW]
  have hd2len : d2.files.length = d.files.length + 1 := by rw [← hd2]; simp [Dk.with]
  have hd2dead : d2.dead = false := by rw [← hd2]; exact g3
  have hd2file : d2.file d.files.length = ⟨[], 0⟩ := by rw [← hd2]; simp [Dk.file, Dk.with]
  have hd2old : ∀ j, j < d.files.length → d2.file j = d.file j := by
    intro j hj
    rw [← hd2]
    simp only [Dk.file, Dk.with]
    rw [List.getElem?_append_left hj]
  have hd2ways : d.now ∈ d2.ways := by
    rw [← hd2]
    show d.now ∈ d.stop1.ways ++ _
    rw [(stop1_same d).2.1]
    exact List.mem_append_left _ (nowW_mem hne)
  have hrise2 := (hI1.way _ (nowW_mem hI1.ne)).2.1
  have hf2 : findW d2.now (fileN l.name (all.length + 1)) = some d.files.length := rising_find (e := (fileN l.name (all.length + 1), d.files.length)) hrise2 (by rw [hd2now]; simp)
  have hfnd2 : ∀ s ∈ l.segs, ∃ i, findW d2.now (fileN l.name s.no) = some i := by
    intro s hs
    obtain ⟨i, hi⟩ := hfnd s hs
    have := findW_mem hi
    exact ⟨i, rising_find (e := (fileN l.name s.no, i)) hrise2 (by rw [hd2now]; exact List.mem_append_left _ this)⟩
  have hGnew : updG G d.files.length (all.length + 1, [b]) d.files.length = (all.length + 1, [b]) := by simp [updG]
  have hGold : ∀ e ∈ d.now, updG G d.files.length (all.length + 1, [b]) e.2 = G e.2 := by
    intro e he
    have := hidx _ (nowW_mem hne) e he
    rw [updG, if_neg (by omega)]
  have hstr : headB (all.length + 1) ++ recB (all.length + 1) b = strB (all.length + 1, [b]) := by simp [strB, recsB]
  have hlen : (headB (all.length + 1) ++ recB (all.length + 1) b).length = 36 + b.length := by rw [List.length_append, head_len, rec_len]; omega
  have hI2 := hI1.append (fileN l.name (all.length + 1)) (headB (all.length + 1) ++ recB (all.length + 1) b)
  rw [← e2] at hI2
  have hI3 := hI2.remove (fileN l.name (all.length + 1))
  rw [← e3] at hI3
  rcases append_live (b := headB (all.length + 1) ++ recB (all.length + 1) b) hno hf2 hd2dead with q | q | ⟨q, q3⟩
  · -- no room: it is taken out again
    left
    rw [q] at e2
    subst e2
    refine ⟨trivial, by simp, ?_⟩
    rw [Dk.remove, at_find hno hf2] at e3
    rcases goes_live (f := fun d => d.with (delW d.now (fileN l.name (all.length + 1)))) hd2dead with ⟨_, p2⟩ | ⟨_, p2, p3⟩
    · rw [p2] at e3
      subst e3
      exact h.dies (d' := { d2 with dead := true }) (hc2.same rfl rfl) hfnd2 rfl hI3 (by omega)
    · rw [p2] at e3
      subst e3
      have hdel : delW d2.stop1.now (fileN l.name (all.length + 1)) = d.now := by rw [stop1_nowW, hd2now]; exact del_end hne'
      rw [hdel] at hI3 ⊢
      refine ⟨hI3, h.named, by omega, h.tale, h.fast, _, core_upd (hc2.same (stop1_same d2).1 (stop1_same d2).2.1) (by rw [(stop1_same d2).2.1]; exact hd2ways), .inl ⟨p3, ?_, ?_⟩⟩
      · rw [with_nowW, hl.segs]
        exact List.map_congr_left fun e he => by rw [hGold e he]
      · intro e he
        rw [with_nowW] at he
        have hfl : Dk.file (d2.stop1.with d.now) e.2 = d.file e.2 := by
          show d2.stop1.file e.2 = _
          rw [stop1_fileW]
          exact hd2old _ (hidx _ (nowW_mem hne) e he)
        rw [hfl, hGold e he]
        exact hl.whole e he
  · -- it stops in the midst of it
    left
    rw [q] at e2
    subst e2
    refine ⟨trivial, by simp, ?_⟩
    have hput : ({ d2 with dead := true } : Dk).put d.files.length ((headB (all.length + 1) ++ recB (all.length + 1) b).take ((headB (all.length + 1) ++ recB (all.length + 1) b).length / 2)) = ({ d2 with dead := true } : Dk).setF d.files.length ⟨(headB (all.length + 1) ++ recB (all.length + 1) b).take ((headB (all.length + 1) ++ recB (all.length + 1) b).length / 2), 0⟩ := by
      have : ({ d2 with dead := true } : Dk).file d.files.length = ⟨[], 0⟩ := hd2file
      rw [Dk.put, this]
      rfl
    have hrd := remove_dead (d := (({ d2 with dead := true } : Dk).put d.files.length ((headB (all.length + 1) ++ recB (all.length + 1) b).take ((headB (all.length + 1) ++ recB (all.length + 1) b).length / 2)))) (s := fileN l.name (all.length + 1)) rfl
    rw [e3] at hI3 ⊢
    rw [hrd.2] at hI3 ⊢
    have hc3 := core_fill (all' := all) (d := { d2 with dead := true }) (i := d.files.length) (r := b) (hc2.same rfl rfl) (by show _ < d2.files.length; omega) hd2file hGnew hb (p := (headB (all.length + 1) ++ recB (all.length + 1) b).take ((headB (all.length + 1) ++ recB (all.length + 1) b).length / 2)) (by rw [← hstr]; exact List.take_prefix _ _) (.inr ⟨by rw [List.length_take, hlen]; omega, rfl⟩)
    rw [← hput] at hc3
    exact h.dies hc3 hfnd2 rfl hI3 (by omega)
  · right
    rw [q] at e2
    subst e2
    refine ⟨trivial, rfl, ?_⟩
    have hput : d2.stop1.put d.files.length (headB (all.length + 1) ++ recB (all.length + 1) b) = d2.stop1.setF d.files.length ⟨strB (all.length + 1, [b]), 0⟩ := by
      have : d2.stop1.file d.files.length = ⟨[], 0⟩ := by rw [stop1_fileW]; exact hd2file
      rw [Dk.put, this, hstr]
      rfl
    have hi2 : d.files.length < d2.stop1.files.length := by rw [(stop1_same d2).1]; omega
    have hc3 := core_fill (all' := all ++ [b]) (d := d2.stop1) (i := d.files.length) (r := b) (hc2.same (stop1_same d2).1 (stop1_same d2).2.1) hi2 (by rw [stop1_fileW]; exact hd2file) hGnew hb (p := strB (all.length + 1, [b])) (List.prefix_refl _) (.inl ⟨rfl, rfl⟩)
    simp only [hput] at hI2 ⊢
    refine ⟨hI2.mono (by omega), h.named, by simp; omega, ⟨by simp [h.tale.last], k, hk, fun h1 => by simp at h1, segs_begins hk hsa, hkD⟩, by have := h.fast; simp; omega, _, hc3, .inl ⟨q3, ?_, ?_⟩⟩
    · show l.segs ++ _ = (d2.stop1.now).map _
      rw [stop1_nowW, hd2now, List.map_append, hl.segs]
      congr 1
      · exact List.map_congr_left fun e he => by rw [hGold e he]
      · simp [hGnew, sgOf, Sg.takes, recsN]
        omega
    · intro e he
      have he' : e ∈ d2.now := by
        have : e ∈ d2.stop1.now := he
        rwa [stop1_nowW] at this
      rw [hd2now] at he'
      rw [setF_fileW hi2, stop1_fileW]
      rcases List.mem_append.1 he' with he | he
      · have := hidx _ (nowW_mem hne) e he
        rw [if_neg (by omega), hd2old _ this, hGold e he]
        exact hl.whole e he
      · rw [List.mem_singleton.1 he, if_pos rfl, hGnew]
        exact ⟨rfl, by simp⟩

end Ab
end Go.Proofs.YtmbbnoipoifhhaaGreatDoor

/-
  DERIVED. What always holds of a log holds behind an append, a commit, a drop. In plain Lean.
  Conditions: none of a program's.
-/
namespace Go.Proofs.YtmbbnoipoifhhaaGreatDoor
namespace Ab
set_option linter.all false

theorem begins_gone {l : Lg} {d : Dk} {no : Nat} {b : Bs} (h : d.dead = true) : (l.begins d no b).1 ≠ 0 ∧ (l.begins d no b).2.1 = d := by
  unfold Lg.begins syncLast
  cases hs : l.segs.getLast? with
  | some s =>
    have h1 := sync_dead (s := fileN l.name s.no) h
    simp only
    rw [if_pos h1.1]
    exact h1
  | none =>
    have h1 := create_dead (s := fileN l.name no) h
    simp only [ne_eq, not_true_eq_false, if_false]
    rw [if_pos h1.1]
    exact h1

def AppOk (n : Nat) (all : List Bs) (D : Nat) (b : Bs) (r : Int × Nat × Dk × Lg) : Prop :=
  (r.1 = 0 ∧ r.2.1 = all.length + 1 ∧ b.length ≤ maxM ∧ LInv (n + 4) (all ++ [b]) D r.2.2.2 r.2.2.1) ∨
  (r.1 ≠ 0 ∧ r.2.1 = 0 ∧ LInv (n + 4) all D r.2.2.2 r.2.2.1)
theorem begins_ok {n : Nat} {all : List Bs} {D : Nat} {l : Lg} {d : Dk} {G : Gh} (h : LInv n all D l d) (hn : n + 3 < W64) (hl : Live l d G) (hc : Core l.name all l.size l.fast D d G) {b : Bs} (hb : b.length ≤ maxM)
    (hfull : ∀ s, l.segs.getLast? = some s → l.size ≤ l.bytes d s) :
    AppOk n all D b (if (l.begins d (l.last + 1) b).1 ≠ 0 then ((l.begins d (l.last + 1) b).1, 0, (l.begins d (l.last + 1) b).2.1, l) else (0, l.last + 1, (l.begins d (l.last + 1) b).2.1, { (l.begins d (l.last + 1) b).2.2 with last := l.last + 1 })) := by
  have hlast := h.tale.last
  unfold Lg.begins
  rw [hlast]
  rcases sync_last h hl hc with ⟨h1, h2, _⟩ | ⟨h1, h2, h3, h4, h5, h6, h7, h8⟩
  · have : (syncLast l d).1 ≠ 0 := by rw [h1]; decide
    rw [if_pos this, if_pos this]
    exact .inr ⟨this, rfl, h2.mono (by omega)⟩
  · have h0 : ¬ (syncLast l d).1 ≠ 0 := by rw [h1]; decide
    rw [if_neg h0]
    generalize (syncLast l d).2 = d1 at *
    have hL1 : LInv (n + 1) all D l d1 := ⟨h2, h.named, by have := h.few; omega, h.tale, h.fast, G, h3, .inl h4⟩
    have hfu : ∀ w e, d1.now = w ++ [e] → (d1.file e.2).fast = (d1.file e.2).b.length ∧ l.size ≤ (d1.file e.2).b.length := by
      intro w e he
      refine ⟨h8 w e he, ?_⟩
      have hs : l.segs.getLast? = some (sgOf (G e.2)) := by rw [h4.segs, he]; simp
      obtain ⟨w', e', hw', _, _, hfd, _, _, _, hno⟩ := live_last h hl hc hs
      have := hfull _ hs
      rw [Lg.bytes, look_find hno hfd] at this
      rw [h5] at he
      have hee : e' = e := by
        rw [he] at hw'
        exact (List.singleton_inj.1 (List.append_inj_right' hw' rfl)).symm
      subst hee
      rw [h7]
      exact this
    rcases begun hL1 (by omega) h4 h3 hfu hb rfl rfl rfl with ⟨g1, g2⟩ | ⟨g1, g2, g3⟩ | ⟨g1, g2, g3⟩
    · rw [if_pos g1, if_pos g1]
      exact .inr ⟨g1, rfl, g2.mono (by omega)⟩
    · have z1 : ¬ (d1.create (fileN l.name (all.length + 1))).1 ≠ 0 := by rw [g1]; simp
      rw [if_neg z1, if_pos g2, if_pos g2]
      exact .inr ⟨g2, rfl, g3.mono (by omega)⟩
    · have z1 : ¬ (d1.create (fileN l.name (all.length + 1))).1 ≠ 0 := by rw [g1]; simp
      have z2 : ¬ ((d1.create (fileN l.name (all.length + 1))).2.append (fileN l.name (all.length + 1)) (headB (all.length + 1) ++ recB (all.length + 1) b)).1 ≠ 0 := by rw [g2]; simp
      rw [if_neg z1, if_neg z2, if_neg (by simp)]
      rw [hlast] at g3
      exact .inl ⟨rfl, rfl, hb, g3.mono (by omega)⟩

theorem append_ok {n : Nat} {all : List Bs} {D : Nat} {l : Lg} {d : Dk} (h : LInv n all D l d) (hn : n + 3 < W64) (b : Bs) : AppOk n all D b (l.append d b) := by
  unfold Lg.append
  by_cases h0 : maxM < b.length ∨ l.last = W64 - 1
  · rw [if_pos h0]
    exact .inr ⟨by simp, rfl, h.mono (by omega)⟩
  rw [if_neg h0]
  have hb : b.length ≤ maxM := by omega
  obtain ⟨G, hc, hl | hg⟩ := h.is
  · cases hs : l.segs.getLast? with
    | none => exact begins_ok h (by omega) hl hc hb fun s hs' => by rw [hs] at hs'; cases hs'
    | some s =>
      simp only
      by_cases hsz : l.bytes d s < l.size
      · rw [if_pos hsz]
        obtain ⟨w, e, hw, rfl, hdl, hfd, hi, hend, hx, hno⟩ := live_last h hl hc hs
        have hmem : e ∈ d.now := by rw [hw]; simp
        have hwh := hl.whole e hmem
        have hpos := ((hc _ (nowW_mem h.inv.ne)).file e hmem).pos
        have hfnd := live_found h.inv hc hl rfl
        have hlast := h.tale.last
        rw [Lg.bytes, look_find hno hfd] at hsz
        simp only at hsz
        have hI := h.inv.append (fileN l.name (sgOf (G e.2)).no) (recB (l.last + 1) b)
        have hno1 : l.last + 1 = (G e.2).1 + (G e.2).2.length := by omega
        rcases append_live (b := recB (l.last + 1) b) hno hfd hl.dead with q | q | ⟨q, q3⟩
        · rw [q]
          exact .inr ⟨by simp, rfl, h.mono (by omega)⟩
        · rw [q] at hI ⊢
          have hc3 := core_put (all' := all) (p := (recB (l.last + 1) b).take ((recB (l.last + 1) b).length / 2)) (r := b) (d := { d with dead := true }) (hc.same rfl rfl) hi hwh.1 hsz hb (by rw [← hno1]; exact List.take_prefix _ _) (by omega) (.inr ⟨by rw [List.length_take, rec_len]; omega, rfl⟩)
          exact .inr ⟨by simp, rfl, h.dies hc3 hfnd rfl (hI.mono (by omega)) (by omega)⟩
        · rw [q] at hI ⊢
          have hi1 : e.2 < d.stop1.files.length := by rw [(stop1_same d).1]; exact hi
          have hc3 := core_put (all' := all ++ [b]) (p := recB (l.last + 1) b) (r := b) (d := d.stop1) (hc.same (stop1_same d).1 (stop1_same d).2.1) hi1 (by rw [stop1_fileW]; exact hwh.1) (by rw [stop1_fileW]; exact hsz) hb (by rw [← hno1]; exact List.prefix_refl _) (by omega) (.inl ⟨by rw [hno1], rfl⟩)
          obtain ⟨k, hk, hk0, hsa, hkD⟩ := h.tale.are
          have hsg : l.segs = l.segs.dropLast ++ [sgOf (G e.2)] := by
            rw [hl.segs, hw]
            simp
          rw [if_neg (by simp)]
          refine .inl ⟨rfl, by show l.last + 1 = _; omega, hb, hI.mono (by omega), h.named, by have := h.few; simp; omega, ⟨by simp [hlast], k, hk, fun h1 => by simp at h1, ?_, hkD⟩, by have := h.fast; simp; omega, _, hc3, .inl ⟨q3, ?_, ?_⟩⟩
          · rw [hsg] at hsa
            exact segs_takes hk hsa
          · show l.segs.dropLast ++ _ = d.stop1.now.map _
            rw [stop1_nowW, hw, List.map_append, hdl]
            congr 1
            · exact List.map_congr_left fun x hx' => by rw [updG, if_neg (hx x hx').1]
            · simp [updG, sgOf, Sg.takes, recsN_app, recsN]
              omega
          · intro x hx'
            have hxm : x ∈ d.now := by
              have : x ∈ d.stop1.now := hx'
              rwa [stop1_nowW] at this
            show ((d.stop1.setF e.2 _).file x.2).b = _ ∧ _
            rw [setF_fileW hi1, stop1_fileW, updG]
            by_cases hxe : x.2 = e.2
            · rw [if_pos hxe, if_pos hxe]
              refine ⟨?_, by simp⟩
              simp only
              rw [hwh.1, strB, strB, recs_app, hno1]
              simp [recsB]
            · rw [if_neg hxe, if_neg hxe]
              exact hl.whole x hxm
      · rw [if_neg hsz]
        exact begins_ok h (by omega) hl hc hb fun s' hs' => by rw [hs] at hs'; cases hs'; omega
  · have hbg := begins_gone (l := l) (no := l.last + 1) (b := b) hg.1
    cases hs : l.segs.getLast? with
    | none =>
      simp only
      rw [if_pos hbg.1, hbg.2]
      exact .inr ⟨hbg.1, rfl, h.mono (by omega)⟩
    | some s =>
      simp only
      split
      · have ha := append_dead (s := fileN l.name s.no) (b := recB (l.last + 1) b) hg.1
        rw [if_pos ha.1, ha.2]
        exact .inr ⟨ha.1, rfl, h.mono (by omega)⟩
      · rw [if_pos hbg.1, hbg.2]
        exact .inr ⟨hbg.1, rfl, h.mono (by omega)⟩

end Ab
end Go.Proofs.YtmbbnoipoifhhaaGreatDoor

/-
  DERIVED. What always holds of a log holds behind a commit and a drop. In plain Lean.
  Conditions: none of a program's.
-/
namespace Go.Proofs.YtmbbnoipoifhhaaGreatDoor
namespace Ab
set_option linter.all false

/-- The last record's number is that of all. -/
theorem live_end {n : Nat} {all : List Bs} {D : Nat} {l : Lg} {d : Dk} {G : Gh} (h : LInv n all D l d) (hl : Live l d G) {w : Way} {e : Bs × Nat} (hw : d.now = w ++ [e]) : (G e.2).1 + (G e.2).2.length = all.length + 1 ∧ (G e.2).2 ≠ [] := by
  obtain ⟨k, hk, hk0, hsa, hkD⟩ := h.tale.are
  have hsg : l.segs = w.map (fun e => sgOf (G e.2)) ++ [sgOf (G e.2)] := by rw [hl.segs, hw]; simp
  rw [hsg] at hsa
  have := segs_snoc hsa
  exact ⟨this.1, this.2.1⟩
theorem live_nil {n : Nat} {all : List Bs} {D : Nat} {l : Lg} {d : Dk} {G : Gh} (h : LInv n all D l d) (hl : Live l d G) (h0 : d.now = []) : all = [] := by
  obtain ⟨k, hk, hk0, hsa, hkD⟩ := h.tale.are
  have h1 : l.segs = [] := by rw [hl.segs, h0]; rfl
  rw [h1] at hsa
  simp only [SegsAre] at hsa
  have := hk0 h1
  exact List.length_eq_zero_iff.1 (by omega)

def NamesOk (n : Nat) (all : List Bs) (D : Nat) (l : Lg) (G : Gh) (d : Dk) (r : Int × Dk) : Prop :=
  (r.1 = 44 ∧ LInv (n + 1) all D l r.2 ∧ r.2.dead = true) ∨ (r.1 = 0 ∧ r.2.Inv (n + 1) ∧ Core l.name all l.size l.fast D r.2 G ∧ Live l r.2 G ∧ r.2.now = d.now ∧ r.2.ways = [d.now] ∧ r.2.file = d.file)
theorem names_ok {n : Nat} {all : List Bs} {D : Nat} {l : Lg} {d : Dk} {G : Gh} (h : LInv n all D l d) (hl : Live l d G) (hc : Core l.name all l.size l.fast D d G) : NamesOk n all D l G d d.syncNames := by
  have hI := h.inv.syncNames
  have hfnd := live_found h.inv hc hl rfl
  unfold Dk.syncNames at hI ⊢
  rcases goes_live (f := fun d : Dk => { d with ways := [d.now] }) hl.dead with ⟨h1, h2⟩ | ⟨h1, h2, h3⟩
  · rw [h2] at hI ⊢
    exact .inl ⟨rfl, h.dies (d' := { d with dead := true }) (G := G) (hc.same rfl rfl) hfnd rfl hI (by omega), rfl⟩
  · rw [h2] at hI ⊢
    have hnow : Dk.now { d.stop1 with ways := [d.stop1.now] } = d.now := by
      rw [← stop1_nowW d]; rfl
    have hfile : Dk.file { d.stop1 with ways := [d.stop1.now] } = d.file := by
      rw [← stop1_fileW d]; rfl
    refine .inr ⟨rfl, hI, core_names (hc.same (stop1_same d).1 (stop1_same d).2.1) (by rw [(stop1_same d).2.1]; exact h.inv.ne), hl.to h3 hnow (fun x _ => by rw [hfile]), hnow, by rw [← stop1_nowW d], hfile⟩

def ComOk (n : Nat) (all : List Bs) (D : Nat) (l : Lg) (r : Int × Dk × Lg) : Prop :=
  (r.1 = 44 ∧ LInv (n + 2) all D l r.2.1 ∧ r.2.2 = l) ∨
  (r.1 = 0 ∧ LInv (n + 2) all D r.2.2 r.2.1 ∧ r.2.2 = { l with fast := l.last } ∧ ∃ G, Live r.2.2 r.2.1 G ∧ Core l.name all l.size all.length D r.2.1 G ∧ r.2.1.ways = [r.2.1.now] ∧ ∀ e ∈ r.2.1.now, (r.2.1.file e.2).fast = (r.2.1.file e.2).b.length)
theorem mid_fast {G : Gh} {fs : Nat → Fl} {size F : Nat} : ∀ {w : Way}, ChainW G fs size F w → ∀ e ∈ w.dropLast, MidIs size (fs e.2) (G e.2)
  | [], _, e, he => by cases he
  | [x], _, e, he => by cases he
  | x :: y :: w, h, e, he => by
    rw [List.dropLast_cons₂] at he
    rcases List.mem_cons.1 he with rfl | he
    · exact h.1
    · exact mid_fast h.2.2 e he

theorem commit_ok {n : Nat} {all : List Bs} {D : Nat} {l : Lg} {d : Dk} (h : LInv n all D l d) : ComOk n all D l (l.commit d) := by
  unfold Lg.commit
  obtain ⟨G, hc, hl | hg⟩ := h.is
  · rcases sync_last h hl hc with ⟨h1, h2, _⟩ | ⟨h1, h2, h3, h4, h5, h6, h7, h8⟩
    · have : (syncLast l d).1 ≠ 0 := by rw [h1]; decide
      rw [if_pos this]
      exact .inl ⟨h1, h2.mono (by omega), rfl⟩
    · have z : ¬ (syncLast l d).1 ≠ 0 := by rw [h1]; decide
      rw [if_neg z]
      generalize (syncLast l d).2 = d1 at *
      have hL1 : LInv (n + 1) all D l d1 := ⟨h2, h.named, by have := h.few; omega, h.tale, h.fast, G, h3, .inl h4⟩
      rcases names_ok hL1 h4 h3 with ⟨g1, g2, _⟩ | ⟨g1, g2, g3, g4, g5, g6, g7⟩
      · have z2 : d1.syncNames.1 ≠ 0 := by rw [g1]; decide
        rw [if_pos z2]
        exact .inl ⟨g1, g2, rfl⟩
      · have z2 : ¬ d1.syncNames.1 ≠ 0 := by rw [g1]; decide
        rw [if_neg z2]
        generalize d1.syncNames.2 = d2 at *
        have hlast := h.tale.last
        have hC : Core l.name all l.size all.length D d2 G := by
          intro w hw
          have hw0 := g3 w hw
          rw [g6] at hw
          rw [List.mem_singleton.1 hw] at hw0 ⊢
          refine hw0.fastUp h.fast ?_ ?_
          · intro w' e he
            rw [g7, h8 w' e he]
            have hm : e ∈ d1.now := by rw [he]; simp
            rw [(h4.whole e hm).1, visF_all]
            have := live_end hL1 h4 he
            omega
          · intro h0
            rw [live_nil hL1 h4 h0]; rfl
        refine .inr ⟨rfl, ⟨g2, h.named, by have := h.few; omega, ⟨hlast, h.tale.are⟩, by show l.last ≤ _; omega, G, by show Core _ _ _ l.last _ _ _; rw [hlast]; exact hC, .inl ⟨g4.dead, g4.segs, g4.whole⟩⟩, rfl, G, ⟨g4.dead, g4.segs, g4.whole⟩, hC, by rw [g6, g5], ?_⟩
        intro e he
        rw [g7]
        rw [g5] at he
        have hch := (h3 _ (nowW_mem h2.ne)).chain
        rcases List.eq_nil_or_concat d1.now with h0 | ⟨w, x, h0⟩
        · rw [h0] at he; cases he
        · rw [List.concat_eq_append] at h0
          rw [h0] at he hch
          rcases List.mem_append.1 he with he | he
          · exact (mid_fast hch e (by simpa using he)).fast
          · rw [List.mem_singleton.1 he]; exact h8 w x h0
  · -- the disk is dead
    have hsy : d.syncNames = (44, d) := by rw [Dk.syncNames, goes_dead hg.1]
    unfold syncLast
    cases hs : l.segs.getLast? with
    | none =>
      simp only [hsy]
      rw [if_neg (by simp), if_pos (by decide)]
      exact .inl ⟨rfl, h.mono (by omega), rfl⟩
    | some s =>
      obtain ⟨i, hi⟩ := hg.2 s (List.mem_of_getLast? hs)
      have : d.sync (fileN l.name s.no) = (44, d) := by rw [Dk.sync, at_find (nameOk_file h.named _) hi, goes_dead hg.1]
      simp only [this]
      rw [if_pos (by decide)]
      exact .inl ⟨rfl, h.mono (by omega), rfl⟩

/-- The first file taken out. -/
theorem drop_step {all : List Bs} {D upto : Nat} (hu : upto ≤ D) (hall : all.length < W64) {s s' : Sg} {r : List Sg} {n : Nat} {l : Lg} {d : Dk} {G : Gh} (hs : l.segs = s :: s' :: r) (h : LInv n all D l d) (hl : Live l d G) (hc : Core l.name all l.size l.fast D d G) (hF : l.fast = all.length) (ht : s.till ≤ upto) :
    ((d.remove (fileN l.name s.no)).1 = 44 ∧ LInv (n + 1) all D l (d.remove (fileN l.name s.no)).2) ∨
    ((d.remove (fileN l.name s.no)).1 = 0 ∧ LInv (n + 1) all D { l with segs := s' :: r } (d.remove (fileN l.name s.no)).2 ∧ Live { l with segs := s' :: r } (d.remove (fileN l.name s.no)).2 G ∧ Core l.name all l.size l.fast D (d.remove (fileN l.name s.no)).2 G) := by
  -- the first file is taken out
  have hnow : ∃ e e' w, d.now = e :: e' :: w ∧ s = sgOf (G e.2) ∧ s' = sgOf (G e'.2) ∧ r = w.map fun e => sgOf (G e.2) := by
    have h1 := hl.segs
    rw [hs] at h1
    match hd : d.now with
    | [] => rw [hd] at h1; simp at h1
    | [x] => rw [hd] at h1; simp at h1
    | x :: y :: w =>
      rw [hd] at h1
      simp only [List.map_cons, List.cons.injEq] at h1
      exact ⟨x, y, w, rfl, h1.1, h1.2.1, h1.2.2⟩
  obtain ⟨e, e', w, hn, rfl, rfl, hr⟩ := hnow
  have hmem : e ∈ d.now := by rw [hn]; simp
  have hway := hc _ (nowW_mem h.inv.ne)
  have hrise := (h.inv.way _ (nowW_mem h.inv.ne)).2.1
  have hnm := hway.names e hmem
  have hno : nameOk (fileN l.name (G e.2).1) = true := nameOk_file h.named _
  have hfd : findW d.now (fileN l.name (G e.2).1) = some e.2 := by rw [← hnm]; exact rising_find hrise hmem
  have hfnd := live_found h.inv hc hl rfl
  have hI := h.inv.remove (fileN l.name (G e.2).1)
  have hrm : d.remove (fileN l.name (sgOf (G e.2)).no) = d.goes fun d => d.with (delW d.now (fileN l.name (G e.2).1)) := by
    show d.remove (fileN l.name (G e.2).1) = _
    rw [Dk.remove, at_find hno hfd]
  have hI' := hI
  rw [show d.remove (fileN l.name (G e.2).1) = d.goes fun d => d.with (delW d.now (fileN l.name (G e.2).1)) from hrm] at hI'
  rcases goes_live (f := fun d : Dk => d.with (delW d.now (fileN l.name (G e.2).1))) hl.dead with ⟨_, p2⟩ | ⟨_, p2, p3⟩
  · rw [p2] at hrm hI'
    have := h.dies (d' := { d with dead := true }) (G := G) (hc.same rfl rfl) hfnd rfl hI' (by omega)
    rw [hrm]
    exact .inl ⟨rfl, this⟩
  · rw [p2] at hrm hI'
    right
    -- what is left
    have hne : ∀ x ∈ e' :: w, x.1 ≠ fileN l.name (G e.2).1 := by
      intro x hx h1
      rw [hn] at hrise
      have := (List.pairwise_cons.1 hrise).1 x hx
      rw [h1, hnm, ltB, decide_eq_true_eq] at this
      exact List.lt_irrefl _ this
    have hdel : delW d.stop1.now (fileN l.name (G e.2).1) = e' :: w := by
      rw [stop1_nowW, hn, ← hnm]
      refine del_head (s := e.1) (i := e.2) fun x hx => ?_
      rw [hnm]; exact hne x hx
    rw [hdel] at hI' hrm
    have hch := hway.chain
    rw [hn] at hch
    obtain ⟨c1, c2, c3⟩ := hch
    obtain ⟨k, hk, hk0, hsa, hkD⟩ := h.tale.are
    rw [hs] at hsa
    obtain ⟨s1, s2, s3, s4⟩ := hsa
    have hp : 0 < (sgOf (G e.2)).recs.length := List.length_pos_iff.2 s2
    have hend := (segs_all (by omega) s4).2
    have hk' : k = (G e.2).1 := s1.symm
    have hlen : (sgOf (G e.2)).recs.length = (G e.2).2.length := rfl
    have htill : (sgOf (G e.2)).till = (G e.2).1 + (G e.2).2.length - 1 := by
      show ((G e.2).1 + (G e.2).2.length + (W64 - 1)) % W64 = _
      rw [show (G e.2).1 + (G e.2).2.length + (W64 - 1) = ((G e.2).1 + (G e.2).2.length - 1) + W64 by simp only [W64] at *; omega, Nat.add_mod_right, Nat.mod_eq_of_lt (by omega)]
    rw [htill] at ht
    have hsg' : ∃ q y, d.now = q ++ [y] ∧ ((e' :: w = [e']) → y = e') := by
      rcases List.eq_nil_or_concat d.now with h0 | ⟨q, y, h0⟩
      · rw [hn] at h0; cases h0
      · rw [List.concat_eq_append] at h0
        refine ⟨q, y, h0, fun h1 => ?_⟩
        rw [hn, h1] at h0
        have := congrArg List.getLast? h0
        simp at this
        exact this.symm
    obtain ⟨q, y, hq, hy⟩ := hsg'
    have hle := live_end h hl hq
    have hwi : WayIs l.name all l.size l.fast D G d.stop1.file (e' :: w) := by
      rw [stop1_fileW]
      refine ⟨fun x hx => hway.names x (by rw [hn]; exact List.mem_cons_of_mem _ hx), fun x hx => hway.file x (by rw [hn]; exact List.mem_cons_of_mem _ hx), c3, fun h1 => absurd h1 (by simp), ?_, ?_⟩
      · intro x hx
        simp at hx
        subst hx
        omega
      · intro x hx
        right
        cases hx
        have := hy rfl
        subst this
        have : 0 < (G y.2).2.length := List.length_pos_iff.2 hle.2
        omega
    have hcore : Core l.name all l.size l.fast D (d.stop1.with (e' :: w)) G := core_with (hc.same (stop1_same d).1 (stop1_same d).2.1) hwi
    have hseg' : sgOf (G e'.2) :: r = (e' :: w).map fun e => sgOf (G e.2) := by rw [hr]; rfl
    have hwhole : ∀ x ∈ (d.stop1.with (e' :: w)).now, ((d.stop1.with (e' :: w)).file x.2).b = strB (G x.2) ∧ (G x.2).2 ≠ [] := by
      intro x hx
      rw [with_nowW] at hx
      have : (d.stop1.with (e' :: w)).file x.2 = d.file x.2 := by
        show d.stop1.file x.2 = _
        rw [stop1_fileW]
      rw [this]
      exact hl.whole x (by rw [hn]; exact List.mem_cons_of_mem _ hx)
    have hlive : Live { l with segs := sgOf (G e'.2) :: r } (d.stop1.with (e' :: w)) G := ⟨p3, by rw [with_nowW]; exact hseg', hwhole⟩
    have hL : LInv (n + 1) all D { l with segs := sgOf (G e'.2) :: r } (d.stop1.with (e' :: w)) :=
      ⟨hI', h.named, by have := h.few; omega, ⟨h.tale.last, k + (sgOf (G e.2)).recs.length, by omega, fun h1 => absurd h1 (by simp), s4, by omega⟩, h.fast, G, hcore, .inl hlive⟩
    rw [hrm]
    exact ⟨rfl, hL, hlive, hcore⟩

set_option maxRecDepth 20000 in
theorem dropL_ok {all : List Bs} {D upto : Nat} (hu : upto ≤ D) (hall : all.length < W64) : ∀ {segs : List Sg} {n : Nat} {l : Lg} {d : Dk} {G : Gh}, l.segs = segs → LInv n all D l d → Live l d G → Core l.name all l.size l.fast D d G → l.fast = all.length →
    ((dropL l.name upto segs d).1 = 0 ∨ (dropL l.name upto segs d).1 = 44) ∧ LInv (n + segs.length + 1) all D { l with segs := (dropL l.name upto segs d).2.2 } (dropL l.name upto segs d).2.1
  | [], n, l, d, G, hs, h, hl, hc, hF => by
    rw [dropL]
    · rcases names_ok h hl hc with ⟨g1, g2, _⟩ | ⟨g1, g2, g3, g4, g5, g6, g7⟩
      · exact ⟨.inr g1, by rw [← hs]; exact g2.mono (by omega)⟩
      · exact ⟨.inl g1, by rw [← hs]; exact ⟨g2.mono (by omega), h.named, by have := h.few; omega, h.tale, h.fast, G, g3, .inl g4⟩⟩
    · intro _ _ _ h; cases h
  | [s], n, l, d, G, hs, h, hl, hc, hF => by
    rw [dropL]
    · rcases names_ok h hl hc with ⟨g1, g2, _⟩ | ⟨g1, g2, g3, g4, g5, g6, g7⟩
      · exact ⟨.inr g1, by rw [← hs]; exact g2.mono (by omega)⟩
      · exact ⟨.inl g1, by rw [← hs]; exact ⟨g2.mono (by omega), h.named, by have := h.few; omega, h.tale, h.fast, G, g3, .inl g4⟩⟩
    · intro _ _ _ h; cases h
  | s :: s' :: r, n, l, d, G, hs, h, hl, hc, hF => by
    rw [dropL]
    by_cases ht : s.till ≤ upto
    · rw [if_pos ht]
      rcases drop_step hu hall hs h hl hc hF ht with ⟨g1, g2⟩ | ⟨g1, g2, g3, g4⟩
      · rw [if_pos (by rw [g1]; decide)]
        exact ⟨.inr g1, by rw [← hs]; exact g2.mono (by omega)⟩
      · rw [if_neg (by rw [g1]; decide)]
        have ih := dropL_ok hu hall (l := { l with segs := s' :: r }) rfl g2 g3 g4 hF
        refine ⟨ih.1, ?_⟩
        have := ih.2
        simp only [List.length_cons] at this ⊢
        rw [show n + (r.length + 1 + 1) + 1 = n + 1 + (r.length + 1) + 1 by omega]
        exact this
    · rw [if_neg ht]
      rcases names_ok h hl hc with ⟨g1, g2, _⟩ | ⟨g1, g2, g3, g4, g5, g6, g7⟩
      · exact ⟨.inr g1, by rw [← hs]; exact g2.mono (by omega)⟩
      · exact ⟨.inl g1, by rw [← hs]; exact ⟨g2.mono (by omega), h.named, by have := h.few; omega, h.tale, h.fast, G, g3, .inl g4⟩⟩

end Ab
end Go.Proofs.YtmbbnoipoifhhaaGreatDoor
