/- Plain Lean: decimal numerals read back: the reference's loop and strconv.Atoi with strconv.Itoa tell the same. -/
import Derived.Test.YtcjfheidmlcbfaaGreatDoorST3
set_option linter.unusedVariables false
set_option linter.unusedSimpArgs false
set_option linter.unusedSectionVars false
namespace Go.Proofs.YtcjfheidmlcbfaaGreatDoor.PSr
open Go Go.RowKit Go.Proofs.YtcjfheidmlcbfaaGreatDoor.V Go.Proofs.YtcjfheidmlcbfaaGreatDoor.C

/-- The number that digits spell, behind those that spelled acc. -/
def dv (acc : Nat) : List UInt8 → Option Nat
  | [] => some acc
  | c :: r => if 48 ≤ c.toNat ∧ c.toNat ≤ 57 then dv (acc * 10 + (c.toNat - 48)) r else none
theorem dv_app : ∀ (l r : List UInt8) (acc : Nat), dv acc (l ++ r) = (dv acc l).bind fun a => dv a r
  | [], r, acc => rfl
  | c :: l, r, acc => by
    rw [List.cons_append, dv, dv]
    split
    · exact dv_app l r _
    · rfl
theorem dig_nat (d : Nat) (h : d < 10) : (UInt8.ofNat (48 + d)).toNat = 48 + d := by
  rw [UInt8.toNat_ofNat']
  exact Nat.mod_eq_of_lt (by omega)
theorem dv_digits : ∀ u : Nat, dv 0 (Lib.decDigits u) = some u := by
  intro u
  induction u using Nat.strongRecOn with
  | _ u ih =>
    by_cases h : u < 10
    · rw [Lib.decDigits_one h, dv, dig_nat u h, if_pos (by omega), dv]
      congr 1
      omega
    · rw [Lib.decDigits, dif_neg h, dv_app, ih (u / 10) (by omega)]
      show dv (u / 10) [UInt8.ofNat (48 + u % 10)] = some u
      rw [dv, dig_nat _ (Nat.mod_lt _ (by omega)), if_pos (by omega), dv]
      congr 1
      omega
theorem dv_ge : ∀ (l : List UInt8) (acc m : Nat), dv acc l = some m → acc ≤ m
  | [], acc, m, h => by cases h; exact Nat.le_refl _
  | c :: r, acc, m, h => by
    rw [dv] at h
    split at h
    · have := dv_ge r _ m h
      omega
    · cases h
theorem dv_lt : ∀ (l : List UInt8) (acc m n : Nat), acc < 10 ^ n → dv acc l = some m → m < 10 ^ (n + l.length)
  | [], acc, m, n, ha, h => by cases h; exact ha
  | c :: r, acc, m, n, ha, h => by
    rw [dv] at h
    split at h
    · have := dv_lt r (acc * 10 + (c.toNat - 48)) m (n + 1) (by rw [Nat.pow_succ]; omega) h
      rw [List.length_cons, ← Nat.add_assoc, Nat.add_right_comm]
      exact this
    · cases h
theorem parse_dv : ∀ (l : List UInt8) (acc m : Nat), dv acc l = some m → m < 18446744073709551616 → Lib.parseUint10 acc l = .ok m
  | [], acc, m, h, _ => by cases h; rfl
  | c :: r, acc, m, h, hm => by
    rw [dv] at h
    split at h
    · rename_i hd
      have hge := dv_ge r _ m h
      rw [Lib.parseUint10, if_pos hd, if_neg (by omega), if_neg (by omega)]
      exact parse_dv r _ m h hm
    · cases h
theorem digits_head (u : Nat) : ∃ c r, Lib.decDigits u = c :: r ∧ 48 ≤ c.toNat ∧ c.toNat ≤ 57 := by
  have h := dv_digits u
  cases hl : Lib.decDigits u with
  | nil =>
    have hp := congrArg List.length hl
    have : 0 < (Lib.decDigits u).length := by
      rw [Lib.decDigits]
      split <;> simp
    rw [hp] at this
    simp at this
  | cons c r =>
    rw [hl, dv] at h
    split at h
    · rename_i hd; exact ⟨c, r, rfl, hd.1, hd.2⟩
    · cases h
theorem atoi_itoa (v : Int) (h0 : -9223372036854775808 ≤ v) (h1 : v ≤ 9223372036854775807) : Lib.atoiAll (Lib.itoa v) = .ok v := by
  unfold Lib.itoa
  split
  · rename_i hn
    obtain ⟨c, r, e, _, _⟩ := digits_head v.natAbs
    have hp : Lib.parseMag (Lib.decDigits v.natAbs) = .ok v.natAbs := by
      unfold Lib.parseMag
      rw [if_neg (by rw [e]; simp)]
      exact parse_dv _ 0 _ (dv_digits _) (by omega)
    unfold Lib.atoiAll
    simp only [hp, show (45 : UInt8).toNat = 45 from rfl, or_true, if_true, true_and, not_true_eq_false, false_and, if_false]
    rw [if_neg (by omega)]
    congr 1
    omega
  · rename_i hn
    obtain ⟨c, r, e, d0, d1⟩ := digits_head v.toNat
    have hp : Lib.parseMag (Lib.decDigits v.toNat) = .ok v.toNat := by
      unfold Lib.parseMag
      rw [if_neg (by rw [e]; simp)]
      exact parse_dv _ 0 _ (dv_digits _) (by omega)
    unfold Lib.atoiAll
    rw [e] at hp ⊢
    have n43 : ¬ c.toNat = 43 := by omega
    have n45 : ¬ c.toNat = 45 := by omega
    simp only [n43, n45, or_self, if_false, hp, not_false_eq_true, true_and, false_and]
    rw [if_neg (by omega)]
    congr 1
    omega

theorem decR_itoa (v most : Int) (h0 : -most ≤ v) (h1 : v ≤ most) (h2 : 0 ≤ most) (h3 : most ≤ 4294967295) : decR (ba (Lib.itoa v)) most = (v, true) := by
  unfold decR
  rw [list_ba, atoi_itoa v (by omega) (by omega)]
  exact if_pos ⟨rfl, h2, h3, h0, h1⟩
theorem decR_no (s : ByteArray) (most : Int) (h : ∀ v, -most ≤ v → v ≤ most → ba (Lib.itoa v) ≠ s) : decR s most = (0, false) := by
  unfold decR
  split
  · rw [if_neg fun hc => h _ hc.2.2.2.1 hc.2.2.2.2 hc.1]
  · rfl
theorem decR_cases (s : ByteArray) (most : Int) (h2 : 0 ≤ most) (h3 : most ≤ 4294967295) : (∃ v, -most ≤ v ∧ v ≤ most ∧ s = ba (Lib.itoa v) ∧ decR s most = (v, true)) ∨ ((∀ v, -most ≤ v → v ≤ most → ba (Lib.itoa v) ≠ s) ∧ decR s most = (0, false)) := by
  by_cases h : ∃ v, -most ≤ v ∧ v ≤ most ∧ ba (Lib.itoa v) = s
  · obtain ⟨v, h0, h1, rfl⟩ := h
    exact .inl ⟨v, h0, h1, rfl, decR_itoa v most h0 h1 h2 h3⟩
  · have h' : ∀ v, -most ≤ v → v ≤ most → ba (Lib.itoa v) ≠ s := fun v a b c => h ⟨v, a, b, c⟩
    exact .inr ⟨h', decR_no s most h'⟩
theorem digits_len : ∀ (n u : Nat), u < 10 ^ n → 0 < n → (Lib.decDigits u).length ≤ n
  | 0, u, _, h => absurd h (by omega)
  | n + 1, u, h, _ => by
    by_cases h10 : u < 10
    · rw [Lib.decDigits_one h10]; simp
    · rw [Lib.decDigits, dif_neg h10]
      have hn : 0 < n := by
        cases n with
        | zero => simp at h; omega
        | succ n => omega
      have := digits_len n (u / 10) (by rw [Nat.pow_succ] at h; omega) hn
      simp
      omega
theorem itoa_len (v : Int) (n : Nat) (hn : 0 < n) (h : v.natAbs < 10 ^ n) : (Lib.itoa v).length ≤ n + 1 := by
  unfold Lib.itoa
  split
  · have := digits_len n v.natAbs h hn
    simp
    omega
  · have := digits_len n v.toNat (by omega) hn
    omega
theorem itoa_pos (v : Int) : 0 < (Lib.itoa v).length := by
  unfold Lib.itoa
  split
  · simp
  · obtain ⟨c, r, e, _, _⟩ := digits_head v.toNat
    rw [e]; simp

/-- What the reference comes to once the digits are read. -/
theorem decI_eq (s : ByteArray) (most : Int) (h : s.size ≤ 281474976710656) : impl_DecNum.f s most = some (decR s most) := by
  unfold impl_DecNum.f decNumF
  rw [if_pos h]
end Go.Proofs.YtcjfheidmlcbfaaGreatDoor.PSr
