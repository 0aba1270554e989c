/- Plain Lean over the printed functions: numbers as texts: the decimal numeral, the eight hexadecimal digits, the names of ops: both models write the same. -/
import Derived.Test.YtcjfheidmlcbfaaGreatDoorSC1
import Derived.Test.YtcjfheidmlcbfaaGreatDoorSQSrx6
set_option linter.unusedVariables false
set_option linter.unusedSimpArgs false
set_option linter.unusedSectionVars false
namespace Go.Proofs.YtcjfheidmlcbfaaGreatDoor.PSr
open Go Go.RowKit Go.Proofs.YtcjfheidmlcbfaaGreatDoor.V Go.Proofs.YtcjfheidmlcbfaaGreatDoor.C

def ba (l : List UInt8) : ByteArray := ⟨l.toArray⟩
theorem ba_app (a b : List UInt8) : ba a ++ ba b = ba (a ++ b) := by
  apply ByteArray.ext
  simp [ba, ByteArray.data_append]
theorem ba_size (l : List UInt8) : (ba l).size = l.length := by simp [ba, ByteArray.size]

/-! ### Decimal -/
theorem dig10 : ∀ d : Fin 10, (ByteArray.mk #[48, 49, 50, 51, 52, 53, 54, 55, 56, 57]).extract d.1 (d.1 + 1) = ba [UInt8.ofNat (48 + d.1)] := by decide +kernel
def digs (u : Nat) : List UInt8 := if u = 0 then [] else Lib.decDigits u
theorem digs_step {u : Nat} (h : u ≠ 0) (acc : List UInt8) : digs u ++ acc = digs (u / 10) ++ (UInt8.ofNat (48 + u % 10) :: acc) := by
  unfold digs
  rw [if_neg h]
  by_cases h10 : u < 10
  · rw [Lib.decDigits_one h10, if_pos (by omega), Nat.mod_eq_of_lt h10]; rfl
  · rw [if_neg (by omega), Lib.decDigits, dif_neg h10, List.append_assoc]; rfl
theorem dec_loop (n : Int) : ∀ (L u : Nat), u < 10 ^ L → u ≤ 9223372036854775808 → ∀ (m : Int) (acc : List UInt8), (m = (u : Int) ∧ u ≤ 9223372036854775807 ∨ m = -(u : Int)) → acc.length + L ≤ 1000 →
    Ev (fun k => spec_DecText.l10 k n (ba acc) m) (if n < 0 then ba (45 :: (digs u ++ acc)) else ba (digs u ++ acc)) := by
  intro L
  induction L with
  | zero =>
    intro u hu _ m acc hm hl
    obtain rfl : u = 0 := by omega
    have hm0 : m = 0 := by omega
    subst hm0
    refine Ev.step ?_
    simp only [spec_DecText.l10]
    refine Ev.ite_pos (by trivial) (Ev.ite_both (fun h => ?_) fun h => ?_)
    · rw [if_pos h]
      have e1 : (ByteArray.mk #[45]) = ba [45] := rfl
      simp only [e1, ba_size, ba_app]
      exact Ev.ite_pos (by simp; omega) (Ev.ret _)
    · rw [if_neg h]
      exact Ev.ret _
  | succ L ih =>
    intro u hu hu2 m acc hm hl
    refine Ev.step ?_
    simp only [spec_DecText.l10]
    by_cases hu0 : u = 0
    · subst hu0
      have hm0 : m = 0 := by omega
      subst hm0
      refine Ev.ite_pos (by trivial) (Ev.ite_both (fun h => ?_) fun h => ?_)
      · rw [if_pos h]
        have e1 : (ByteArray.mk #[45]) = ba [45] := rfl
        simp only [e1, ba_size, ba_app]
        exact Ev.ite_pos (by simp; omega) (Ev.ret _)
      · rw [if_neg h]
        exact Ev.ret _
    have hm0 : ¬ m = 0 := by omega
    refine Ev.ite_neg hm0 ?_
    rw [digs_step hu0]
    have hu' : u / 10 < 10 ^ L := by rw [Nat.pow_succ] at hu; omega
    have hd : u % 10 < 10 := Nat.mod_lt _ (by omega)
    have hx := dig10 ⟨u % 10, hd⟩
    have hw : wrap64 (((u % 10 : Nat) : Int) + 1) = ((u % 10 + 1 : Nat) : Int) := by unfold wrap64; omega
    have hs : ((ByteArray.mk #[48, 49, 50, 51, 52, 53, 54, 55, 56, 57]).size : Int) = 10 := rfl
    generalize ByteArray.mk #[48, 49, 50, 51, 52, 53, 54, 55, 56, 57] = D at hx hs
    have go : ∀ m' : Int, (m' = ((u / 10 : Nat) : Int) ∧ u / 10 ≤ 9223372036854775807 ∨ m' = -((u / 10 : Nat) : Int)) → Ev (fun k => if 0 ≤ ((u % 10 : Nat) : Int) then (if ((u % 10 : Nat) : Int) ≤ wrap64 (((u % 10 : Nat) : Int) + 1) then (if wrap64 (((u % 10 : Nat) : Int) + 1) ≤ (D.size : Int) then (if (D.extract ((u % 10 : Nat) : Int).toNat (wrap64 (((u % 10 : Nat) : Int) + 1)).toNat).size + (ba acc).size ≤ 9223372036854775807 then (spec_DecText.l10 k n (D.extract ((u % 10 : Nat) : Int).toNat (wrap64 (((u % 10 : Nat) : Int) + 1)).toNat ++ ba acc) m') else none) else none) else none) else none)
        (if n < 0 then ba (45 :: (digs (u / 10) ++ (UInt8.ofNat (48 + u % 10) :: acc))) else ba (digs (u / 10) ++ (UInt8.ofNat (48 + u % 10) :: acc))) := by
      intro m' hm'
      simp only [hw, hs, Int.toNat_natCast, hx, ba_app, ba_size]
      refine Ev.ite_pos (by omega) (Ev.ite_pos (by omega) (Ev.ite_pos (by omega) (Ev.ite_pos (by simp; omega) ?_)))
      refine ih (u / 10) hu' (by omega) m' (UInt8.ofNat (48 + u % 10) :: acc) hm' (by simp; omega)
    rcases hm with ⟨rfl, hb⟩ | rfl
    · have h1 : Int.tmod (u : Int) 10 = ((u % 10 : Nat) : Int) := rfl
      have h2 : wrap64 (Int.tdiv (u : Int) 10) = ((u / 10 : Nat) : Int) := by
        have : Int.tdiv (u : Int) 10 = ((u / 10 : Nat) : Int) := rfl
        rw [this]; unfold wrap64; omega
      simp only [h1, h2]
      exact Ev.ite_neg (by omega) (go _ (.inl ⟨rfl, by omega⟩))
    · have h1 : Int.tmod (-(u : Int)) 10 = -((u % 10 : Nat) : Int) := by rw [Int.neg_tmod]; rfl
      have h2 : wrap64 (Int.tdiv (-(u : Int)) 10) = -((u / 10 : Nat) : Int) := by
        have : Int.tdiv (-(u : Int)) 10 = -((u / 10 : Nat) : Int) := by rw [Int.neg_tdiv]; rfl
        rw [this]; unfold wrap64; omega
      have h3 : wrap64 (0 - -((u % 10 : Nat) : Int)) = ((u % 10 : Nat) : Int) := by unfold wrap64; omega
      simp only [h1, h2, h3]
      refine Ev.ite_both (fun _ => go _ (.inr rfl)) fun h => ?_
      have h4 : -((u % 10 : Nat) : Int) = ((u % 10 : Nat) : Int) := by omega
      simp only [h4]
      exact go _ (.inr rfl)
theorem dec_ev (n : Int) (h0 : -9223372036854775808 ≤ n) (h1 : n ≤ 9223372036854775807) : Ev (fun k => spec_DecText.f k n) (ba (Lib.itoa n)) := by
  unfold spec_DecText.f
  refine Ev.ite_both (fun h => ?_) fun h => ?_
  · subst h
    exact (Ev.ret _).cast (by decide +kernel)
  · have hp : n.natAbs < 10 ^ 20 := by omega
    refine (dec_loop n 20 n.natAbs hp (by omega) n [] (by omega) (by simp)).cast ?_
    unfold Lib.itoa digs
    split
    · rw [if_neg (by omega)]; simp
    · rw [if_neg (by omega), show n.natAbs = n.toNat by omega]; simp
end Go.Proofs.YtcjfheidmlcbfaaGreatDoor.PSr
