/-
  DERIVED. recovery.own: a record copied, its arguments plain.
  Conditions: bounded lengths; a record that can be.
-/
import Derived.Test.YtidoflgcblglbaaDoorWF
import Derived.Test.YtidoflgcblglbaaDoorW6
set_option linter.all false
set_option maxHeartbeats 4000000
namespace Go.Proofs.YtidoflgcblglbaaDoor
namespace Ab
open Go.Lib
set_option maxRecDepth 100000
set_option maxHeartbeats 4000000
set_option linter.all false
attribute [local simp] wp_region regionA opsA nCall rCall goCallR pCall pnCall lenA appendA appRow newsA rowsSz rowsOf isIntD makeSliceA elemOf rowsBuilt eqA eq1

def Rec.plain (r : Rec) : Rec := { r with args := r.args.map Val.plain }
theorem c_rown {K n nx : Nat} (hK : big K) (hn : 2 ≤ n) (za : Bool) (r : Rec) (hza : za = true → r.args = []) (hB : RecB r) (hC : CanR r) :
    Sp K n 36 [.agg (recCells false za r)] [] nx fun v hp' nx' => ∃ a ga b gb, v = .agg (recHeap a ga b gb r.plain) ∧ hp' = [(a, (ga, .arr 1 (ints r.parts))), (b, (gb, .arr 3 (valRows (r.args.map Val.plain))))] ∧ nx ≤ a ∧ a < b ∧ b < nx' := by
  refine sp_cps fun Q hQ => ?_
  obtain ⟨n, rfl⟩ : ∃ m, n = m + 1 := ⟨n - 1, by omega⟩
  have hpl := hB.parts
  have hal := hB.args
  have hcl := fun N => c_cloneI (K := K) (n := n) (nx := N) (by omega) r.parts hpl
  have hp1 := hC.2.1.1
  have hp : ¬ r.parts = [] := fun e => by rw [e] at hp1; simp at hp1
  have hni : (ints r.parts).all (fun r => r.all nov1) = true := by simp [ints, nov1]
  have hmk : r.args.length * 33 ≤ 68719476736 := by omega
  refine sp_of rfl (run_wp Tryd.func36 rfl (by simp [Tryd.f36]) ?_)
  simp [recCells, mostB, hp, hcl, hni, novO, hmk]
  have hrep : List.replicate r.args.length [AV.i .i64 0, AV.i .i64 0, AV.s { data := { toList := [] } }] = valRows (List.replicate r.args.length ⟨0, 0, ByteArray.empty⟩) := by
    simp only [valRows, List.map_replicate]
    rfl
  rw [hrep]
  generalize hka : nx + 2 + 5 + 3 = ka
  generalize hkb : nx + 2 + 5 + 7 + 3 = kb
  refine loop_wp (ι := Nat × List Val × Nat) (fun i => { env := [(1, .lp 1 nx 0), (2, .lp 2 (nx + 1) 0), (3, .rs kb 0 0 r.args.length 3), (15, .vs za 3 (valRows r.args)), (16, .i .i64 (r.args.length : Nat)), (17, .i .i64 (i.1 : Nat))], loc := [(1, (nx, .cells [.i .u64 (r.id : Nat), .i .u64 (r.client : Nat), .i .u64 (r.seq : Nat), .rs ka 1 0 r.parts.length 1, .s r.proc, .vs za 3 (valRows r.args)])), (2, (nx + 1, .cells [.i .u64 0, .i .u64 0, .i .u64 0, .vs true 0 [], .s { data := { toList := [] } }, .vs true 0 []]))], hp := [(ka, (1, .arr 1 (ints r.parts))), (kb, (0, .arr 3 (valRows i.2.1)))], nx := i.2.2 }) (fun i => r.args.length - i.1)
    (fun i => i.1 ≤ r.args.length ∧ kb < i.2.2 ∧ i.2.1.length = r.args.length ∧ i.2.1.take i.1 = (r.args.map Val.plain).take i.1 ∧ ∀ j, i.1 ≤ j → j < r.args.length → i.2.1[j]? = some ⟨0, 0, ByteArray.empty⟩) (0, List.replicate r.args.length ⟨0, 0, ByteArray.empty⟩, _) rfl ⟨Nat.zero_le _, by simp only; omega, by simp, by simp, fun j _ h => by simp [h]⟩ (by simp; unfold big at hK; omega) ?_
  rintro Next ⟨i, m, N⟩ ⟨hi, hN, hml, hmt, hmz⟩ hnext
  simp only at hi hN hml hmt hmz hnext
  have hab : ¬ ka = kb := by omega
  by_cases hlt : i < r.args.length
  · obtain ⟨v, hv⟩ : ∃ v, r.args[i]? = some v := ⟨_, List.getElem?_eq_getElem hlt⟩
    have hvm := List.mem_of_getElem? hv
    have hvc := hC.2.2.2.2.2 v hvm
    have c1 : (i : Int) < r.args.length := by omega
    have c3 : IntKind.i64.wrap ((i : Int) + 1) = ((i + 1 : Nat) : Int) := by rw [wrap_i64 (by omega) (by omega)]; omega
    have hr2 := val_row hv
    have hm2 := val_row (hmz i (Nat.le_refl _) hlt)
    have him : i < m.length := by omega
    have hnx : ∀ (m' : List Val) (N' : Nat), kb < N' → m' = m.set i v.plain → Next { env := [(1, .lp 1 nx 0), (2, .lp 2 (nx + 1) 0), (3, .rs kb 0 0 r.args.length 3), (15, .vs za 3 (valRows r.args)), (16, .i .i64 (r.args.length : Nat)), (17, .i .i64 ((i + 1 : Nat) : Int))], loc := [(1, (nx, .cells [.i .u64 (r.id : Nat), .i .u64 (r.client : Nat), .i .u64 (r.seq : Nat), .rs ka 1 0 r.parts.length 1, .s r.proc, .vs za 3 (valRows r.args)])), (2, (nx + 1, .cells [.i .u64 0, .i .u64 0, .i .u64 0, .vs true 0 [], .s { data := { toList := [] } }, .vs true 0 []]))], hp := [(ka, (1, .arr 1 (ints r.parts))), (kb, (0, .arr 3 (valRows m')))], nx := N' } := by
      rintro m' N' h1 rfl
      refine hnext (i + 1, m.set i v.plain, N') (by simp only; omega) ⟨by simp only; omega, h1, by simp [hml], ?_, fun j hj1 hj2 => ?_⟩
      · simp only
        rw [List.take_add_one, List.take_add_one, List.getElem?_set_self him, List.take_set_of_le (Nat.le_refl _), hmt, List.getElem?_map, hv]
        rfl
      · simp only at hj1 ⊢
        rw [List.getElem?_set_ne (by omega)]
        exact hmz j (by omega) hj2
    have hset : ∀ w : Val, (valRows m).set i w.row = valRows (m.set i w) := fun w => by simp [valRows, List.map_set]
    obtain ⟨t, x, s⟩ := v
    have ht : t = 0 ∨ t = 1 ∨ t = 2 ∨ t = 3 ∨ t = 4 := by
      unfold valChk at hvc
      simp only at hvc
      by_cases q1 : t < 0
      · rw [if_pos q1] at hvc; cases hvc
      · by_cases q2 : 4 < t
        · rw [if_neg q1, if_pos q2] at hvc; cases hvc
        · omega
    rcases ht with rfl | rfl | rfl | rfl | rfl
    · simp [c1, hr2, hlt, Val.row, c3]
      refine hnx m _ (by omega) ?_
      have hz := hmz i (Nat.le_refl _) hlt
      rw [List.getElem?_eq_getElem him] at hz
      have hz2 : (⟨0, x, s⟩ : Val).plain = m[i] := by rw [Option.some.inj hz]; rfl
      rw [hz2, List.set_getElem_self]
    · have h8 := hset ⟨1, x, ByteArray.empty⟩
      simp only [Val.row] at h8 hm2 hr2
      simp [c1, hr2, hlt, Val.row, c3, hab, hml, hm2, emptyBA, h8]
      exact hnx _ _ (by omega) rfl
    · have h8 := hset ⟨2, x, ByteArray.empty⟩
      simp only [Val.row] at h8 hm2 hr2
      simp [c1, hr2, hlt, Val.row, c3, hab, hml, hm2, emptyBA, h8]
      exact hnx _ _ (by omega) rfl
    · have h8 := hset ⟨3, 0, s⟩
      simp only [Val.row] at h8 hm2 hr2
      simp [c1, hr2, hlt, Val.row, c3, hab, hml, hm2, emptyBA, h8]
      exact hnx _ _ (by omega) rfl
    · have h8 := hset ⟨4, x, ByteArray.empty⟩
      simp only [Val.row] at h8 hm2 hr2
      simp [c1, hr2, hlt, Val.row, c3, hab, hml, hm2, emptyBA, h8]
      exact hnx _ _ (by omega) rfl
  · have hil : i = r.args.length := by omega
    subst hil
    have hmm : m = r.args.map Val.plain := by
      have e1 : m.take r.args.length = m := List.take_of_length_le (by omega)
      have e2 : (r.args.map Val.plain).take r.args.length = r.args.map Val.plain := List.take_of_length_le (by simp)
      rw [e1, e2] at hmt
      exact hmt
    subst hmm
    simp [hab]
    refine hQ _ _ _ ⟨ka, 1, kb, 0, by simp [recHeap, Rec.plain], rfl, by omega, by omega, by omega⟩

end Ab
end Go.Proofs.YtidoflgcblglbaaDoor
