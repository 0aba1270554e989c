/- Plain Lean over the printed functions: the eight hexadecimal digits and the names of ops: both models write the same. -/
import Derived.Test.YtmdnpaekamkknaaDoorET1
set_option linter.unusedVariables false
set_option linter.unusedSimpArgs false
set_option linter.unusedSectionVars false
namespace Go.Proofs.YtmdnpaekamkknaaDoor.PEt
open Go Go.RowKit Go.Proofs.YtmdnpaekamkknaaDoor.V Go.Proofs.YtmdnpaekamkknaaDoor.C

/-! ### Hexadecimal -/
def hexd (d : Nat) : UInt8 := UInt8.ofNat (if d < 10 then 48 + d else 87 + d)
def HD (x : Nat) : Nat → List UInt8
  | 0 => []
  | j + 1 => hexd (x / 16 ^ j % 16) :: HD x j
theorem HD_len (x : Nat) : ∀ j, (HD x j).length = j
  | 0 => rfl
  | j + 1 => by rw [HD, List.length_cons, HD_len x j]
theorem dig16 : ∀ d : Fin 16, (ByteArray.mk #[48, 49, 50, 51, 52, 53, 54, 55, 56, 57, 97, 98, 99, 100, 101, 102]).extract d.1 (d.1 + 1) = ba [hexd d.1] := by decide +kernel
theorem bt16 : ∀ d : Fin 16, bt (ByteArray.mk #[48, 49, 50, 51, 52, 53, 54, 55, 56, 57, 97, 98, 99, 100, 101, 102]) (d.1 : Int) = ((hexd d.1).toNat : Int) := by decide +kernel
theorem pow_next (x i : Nat) : x / 16 ^ i / 16 = x / 16 ^ (i + 1) := by rw [Nat.div_div_eq_div_mul, Nat.pow_succ]
theorem hexS_loop (x : Nat) (hx : x < 4294967296) : ∀ r i : Nat, i + r = 8 → Ev (fun k => spec_HexWord.l8 k (ba (HD x i)) ((x / 16 ^ i : Nat) : Int) (i : Int)) (ba (HD x 8)) := by
  intro r
  induction r with
  | zero =>
    intro i hi
    obtain rfl : i = 8 := by omega
    refine Ev.step ?_
    simp only [spec_HexWord.l8]
    exact Ev.ite_neg (by omega) (Ev.ret _)
  | succ r ih =>
    intro i hi
    refine Ev.step ?_
    simp only [spec_HexWord.l8]
    refine Ev.ite_pos (by omega) ?_
    have hle : x / 16 ^ i ≤ x := Nat.div_le_self _ _
    have h16 := pow_next x i
    have hd : x / 16 ^ i % 16 < 16 := Nat.mod_lt _ (by omega)
    have hl := HD_len x i
    have hstep : HD x (i + 1) = [hexd (x / 16 ^ i % 16)] ++ HD x i := rfl
    have key := ih (i + 1) (by omega)
    rw [hstep, ← h16] at key
    clear h16 hstep ih
    generalize x / 16 ^ i = y at *
    have h1 : Int.tmod (y : Int) 16 = ((y % 16 : Nat) : Int) := rfl
    have h2 : wrap64 (Int.tdiv (y : Int) 16) = ((y / 16 : Nat) : Int) := by
      have : Int.tdiv (y : Int) 16 = ((y / 16 : Nat) : Int) := rfl
      rw [this]; unfold wrap64; omega
    have h3 : wrap64 (((y % 16 : Nat) : Int) + 1) = ((y % 16 + 1 : Nat) : Int) := by unfold wrap64; omega
    have h4 : wrap64 ((i : Int) + 1) = ((i + 1 : Nat) : Int) := by unfold wrap64; omega
    have hs : ((ByteArray.mk #[48, 49, 50, 51, 52, 53, 54, 55, 56, 57, 97, 98, 99, 100, 101, 102]).size : Int) = 16 := rfl
    have hx' := dig16 ⟨y % 16, hd⟩
    generalize ByteArray.mk #[48, 49, 50, 51, 52, 53, 54, 55, 56, 57, 97, 98, 99, 100, 101, 102] = D at hx' hs
    simp only [h1, h2, h3, h4, hs, Int.toNat_natCast, hx', ba_app, ba_size]
    exact Ev.ite_pos (by omega) (Ev.ite_pos (by omega) (Ev.ite_pos (by omega) (Ev.ite_pos (by simp; omega) key)))
theorem hexS_ev (x : Int) (h0 : 0 ≤ x) (h1 : x < 4294967296) : Ev (fun k => spec_HexWord.f k x) (ba (HD x.toNat 8)) := by
  obtain ⟨m, rfl⟩ := Int.eq_ofNat_of_zero_le h0
  unfold spec_HexWord.f
  have hw : wrap64 (m : Int) = (m : Int) := by unfold wrap64; omega
  rw [hw]
  have h := hexS_loop m (by omega) 8 0 rfl
  rw [Nat.pow_zero, Nat.div_one] at h
  exact h
theorem and_15 (y : Nat) (h : y < 4294967296) : bitAnd .u32 (y : Int) 15 = ((y % 16 : Nat) : Int) := by
  unfold bitAnd
  have e : (BitVec.ofInt IntKind.u32.bits (y : Int) &&& BitVec.ofInt IntKind.u32.bits 15).toNat = y % 16 := by
    rw [BitVec.toNat_and, BitVec.toNat_ofInt, BitVec.toNat_ofInt]
    have e1 : ((y : Int) % ((2 ^ IntKind.u32.bits : Nat) : Int)).toNat = y := by
      show ((y : Int) % (4294967296 : Int)).toNat = y
      omega
    have e2 : ((15 : Int) % ((2 ^ IntKind.u32.bits : Nat) : Int)).toNat = 15 := rfl
    rw [e1, e2]
    exact Nat.and_two_pow_sub_one_eq_mod y 4
  rw [e]
  have hlt : y % 16 < 16 := Nat.mod_lt _ (by omega)
  generalize y % 16 = z at *
  unfold IntKind.wrap
  simp [IntKind.bits]
  omega
theorem shr_4 (x : Int) : shr .u32 x 4 = x / 16 := by unfold shr; simp [IntKind.bits]
theorem hexI_loop (x : Nat) (hx : x < 4294967296) : ∀ r j : Nat, j + r = 8 → Ev (fun k => impl_hexWord.l6 k ((x / 16 ^ j : Nat) : Int) (7 - (j : Int)) (List.replicate r 0 ++ (HD x j).map fun b => (b.toNat : Int))) (ba (HD x 8)) := by
  intro r
  induction r with
  | zero =>
    intro i hi
    obtain rfl : i = 8 := by omega
    refine Ev.step ?_
    simp only [impl_hexWord.l6]
    refine Ev.ite_neg (by omega) ((Ev.ret _).cast ?_)
    unfold strOf ba
    congr 2
    simp [List.map_map, Function.comp_def]
  | succ r ih =>
    intro i hi
    refine Ev.step ?_
    simp only [impl_hexWord.l6]
    refine Ev.ite_pos (by omega) ?_
    have hle : x / 16 ^ i ≤ x := Nat.div_le_self _ _
    have h16 := pow_next x i
    have hd : x / 16 ^ i % 16 < 16 := Nat.mod_lt _ (by omega)
    have hl := HD_len x i
    have key := ih (i + 1) (by omega)
    have hset : (List.replicate (r + 1) (0 : Int) ++ (HD x i).map fun b : UInt8 => (b.toNat : Int)).set (7 - (i : Int)).toNat ((hexd (x / 16 ^ i % 16)).toNat : Int) = List.replicate r (0 : Int) ++ (HD x (i + 1)).map (fun b : UInt8 => (b.toNat : Int)) := by
      have e : (7 - (i : Int)).toNat = r := by omega
      rw [e, List.set_append_left _ _ (by simp), List.replicate_succ', List.set_append_right _ _ (by simp)]
      simp [HD]
    rw [← h16, ← hset] at key
    clear h16 hset ih
    have hx' := bt16 ⟨x / 16 ^ i % 16, hd⟩
    generalize x / 16 ^ i = y at *
    have h1 := and_15 y (by omega)
    have h2 : shr .u32 (y : Int) 4 = ((y / 16 : Nat) : Int) := by rw [shr_4]; rfl
    have h4 : wrap64 (7 - (i : Int) - 1) = 7 - ((i + 1 : Nat) : Int) := by unfold wrap64; omega
    have hs : ((ByteArray.mk #[48, 49, 50, 51, 52, 53, 54, 55, 56, 57, 97, 98, 99, 100, 101, 102]).size : Int) = 16 := rfl
    generalize ByteArray.mk #[48, 49, 50, 51, 52, 53, 54, 55, 56, 57, 97, 98, 99, 100, 101, 102] = D at hx' hs
    simp only [h1, h2, h4, hs, hx']
    exact Ev.ite_pos (by omega) (Ev.ite_pos (by omega) (Ev.ite_pos (by omega) (Ev.ite_pos (by simp [hl]; omega) key)))
theorem hexI_ev (x : Int) (h0 : 0 ≤ x) (h1 : x < 4294967296) : Ev (fun k => impl_hexWord.f k x) (ba (HD x.toNat 8)) := by
  obtain ⟨m, rfl⟩ := Int.eq_ofNat_of_zero_le h0
  unfold impl_hexWord.f
  have h := hexI_loop m (by omega) 8 0 rfl
  rw [Nat.pow_zero, Nat.div_one] at h
  exact h

/-! ### Ops' names -/
theorem names33 : ∀ m : Fin 33, ∃ s, spec_OpName.f (m.1 : Int) = some s ∧ opNameF (m.1 : Int) = some s ∧ s.size ≤ 5 := by
  have h : ∀ m : Fin 33, (match spec_OpName.f (m.1 : Int), opNameF (m.1 : Int) with | some s, some t => decide (s = t ∧ s.size ≤ 5) | _, _ => false) = true := by decide +kernel
  intro m
  have h := h m
  split at h
  · rename_i s t hs ht
    obtain ⟨rfl, h2⟩ := of_decide_eq_true h
    exact ⟨s, hs, ht, h2⟩
  · cases h
theorem opName_both (n : Int) : ∃ s, spec_OpName.f n = some s ∧ opNameF n = some s ∧ s.size ≤ 5 := by
  by_cases h : 0 ≤ n ∧ n ≤ 32
  · obtain ⟨m, rfl⟩ := Int.eq_ofNat_of_zero_le h.1
    exact names33 ⟨m, by omega⟩
  · refine ⟨ByteArray.mk #[], ?_, ?_, by decide⟩
    · unfold spec_OpName.f spec_l01In.f
      by_cases h0 : n ≥ 0
      · have h2 : ¬ n ≤ 32 := fun h2 => h ⟨h0, h2⟩
        simp [h0, h2]
      · simp [h0]
    · unfold opNameF
      by_cases h0 : 0 ≤ n
      · rw [if_pos h0, if_neg fun h2 => h ⟨h0, h2⟩]
      · rw [if_neg h0]
end Go.Proofs.YtmdnpaekamkknaaDoor.PEt
