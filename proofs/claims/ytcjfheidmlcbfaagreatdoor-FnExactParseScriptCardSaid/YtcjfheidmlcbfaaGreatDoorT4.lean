/- Plain Lean: decimal numerals read back: the reference's loop and strconv.Atoi with strconv.Itoa tell the same. -/
import Derived.Test.YtcjfheidmlcbfaaGreatDoorT3
set_option linter.unusedVariables false
set_option linter.unusedSimpArgs false
set_option linter.unusedSectionVars false
namespace Go.Proofs.YtcjfheidmlcbfaaGreatDoor.PPa
open Go Go.RowKit Go.Proofs.YtcjfheidmlcbfaaGreatDoor.V Go.Proofs.YtcjfheidmlcbfaaGreatDoor.C

/-- The number that digits spell, behind those that spelled acc. -/
def dv (acc : Nat) : List UInt8 → Option Nat
  | [] => some acc
  | c :: r => if 48 ≤ c.toNat ∧ c.toNat ≤ 57 then dv (acc * 10 + (c.toNat - 48)) r else none
theorem dv_app : ∀ (l r : List UInt8) (acc : Nat), dv acc (l ++ r) = (dv acc l).bind fun a => dv a r
  | [], r, acc => rfl
  | c :: l, r, acc => by
    rw [List.cons_append, dv, dv]
    split
    · exact dv_app l r _
    · rfl
theorem dig_nat (d : Nat) (h : d < 10) : (UInt8.ofNat (48 + d)).toNat = 48 + d := by
  rw [UInt8.toNat_ofNat']
  exact Nat.mod_eq_of_lt (by omega)
theorem dv_digits : ∀ u : Nat, dv 0 (Lib.decDigits u) = some u := by
  intro u
  induction u using Nat.strongRecOn with
  | _ u ih =>
    by_cases h : u < 10
    · rw [Lib.decDigits_one h, dv, dig_nat u h, if_pos (by omega), dv]
      congr 1
      omega
    · rw [Lib.decDigits, dif_neg h, dv_app, ih (u / 10) (by omega)]
      show dv (u / 10) [UInt8.ofNat (48 + u % 10)] = some u
      rw [dv, dig_nat _ (Nat.mod_lt _ (by omega)), if_pos (by omega), dv]
      congr 1
      omega
theorem dv_ge : ∀ (l : List UInt8) (acc m : Nat), dv acc l = some m → acc ≤ m
  | [], acc, m, h => by cases h; exact Nat.le_refl _
  | c :: r, acc, m, h => by
    rw [dv] at h
    split at h
    · have := dv_ge r _ m h
      omega
    · cases h
theorem dv_lt : ∀ (l : List UInt8) (acc m n : Nat), acc < 10 ^ n → dv acc l = some m → m < 10 ^ (n + l.length)
  | [], acc, m, n, ha, h => by cases h; exact ha
  | c :: r, acc, m, n, ha, h => by
    rw [dv] at h
    split at h
    · have := dv_lt r (acc * 10 + (c.toNat - 48)) m (n + 1) (by rw [Nat.pow_succ]; omega) h
      rw [List.length_cons, ← Nat.add_assoc, Nat.add_right_comm]
      exact this
    · cases h
theorem parse_dv : ∀ (l : List UInt8) (acc m : Nat), dv acc l = some m → m < 18446744073709551616 → Lib.parseUint10 acc l = .ok m
  | [], acc, m, h, _ => by cases h; rfl
  | c :: r, acc, m, h, hm => by
    rw [dv] at h
    split at h
    · rename_i hd
      have hge := dv_ge r _ m h
      rw [Lib.parseUint10, if_pos hd, if_neg (by omega), if_neg (by omega)]
      exact parse_dv r _ m h hm
    · cases h
theorem digits_head (u : Nat) : ∃ c r, Lib.decDigits u = c :: r ∧ 48 ≤ c.toNat ∧ c.toNat ≤ 57 := by
  have h := dv_digits u
  cases hl : Lib.decDigits u with
  | nil =>
    have hp := congrArg List.length hl
    have : 0 < (Lib.decDigits u).length := by
      rw [Lib.decDigits]
      split <;> simp
    rw [hp] at this
    simp at this
  | cons c r =>
    rw [hl, dv] at h
    split at h
    · rename_i hd; exact ⟨c, r, rfl, hd.1, hd.2⟩
    · cases h
theorem atoi_itoa (v : Int) (h0 : -9223372036854775808 ≤ v) (h1 : v ≤ 9223372036854775807) : Lib.atoiAll (Lib.itoa v) = .ok v := by
  unfold Lib.itoa
  split
  · rename_i hn
    obtain ⟨c, r, e, _, _⟩ := digits_head v.natAbs
    have hp : Lib.parseMag (Lib.decDigits v.natAbs) = .ok v.natAbs := by
      unfold Lib.parseMag
      rw [if_neg (by rw [e]; simp)]
      exact parse_dv _ 0 _ (dv_digits _) (by omega)
    unfold Lib.atoiAll
    simp only [hp, show (45 : UInt8).toNat = 45 from rfl, or_true, if_true, true_and, not_true_eq_false, false_and, if_false]
    rw [if_neg (by omega)]
    congr 1
    omega
  · rename_i hn
    obtain ⟨c, r, e, d0, d1⟩ := digits_head v.toNat
    have hp : Lib.parseMag (Lib.decDigits v.toNat) = .ok v.toNat := by
      unfold Lib.parseMag
      rw [if_neg (by rw [e]; simp)]
      exact parse_dv _ 0 _ (dv_digits _) (by omega)
    unfold Lib.atoiAll
    rw [e] at hp ⊢
    have n43 : ¬ c.toNat = 43 := by omega
    have n45 : ¬ c.toNat = 45 := by omega
    simp only [n43, n45, or_self, if_false, hp, not_false_eq_true, true_and, false_and]
    rw [if_neg (by omega)]
    congr 1
    omega

theorem decR_itoa (v most : Int) (h0 : -most ≤ v) (h1 : v ≤ most) (h2 : 0 ≤ most) (h3 : most ≤ 4294967295) : decR (ba (Lib.itoa v)) most = (v, true) := by
  unfold decR
  rw [list_ba, atoi_itoa v (by omega) (by omega)]
  exact if_pos ⟨rfl, h2, h3, h0, h1⟩
theorem decR_no (s : ByteArray) (most : Int) (h : ∀ v, -most ≤ v → v ≤ most → ba (Lib.itoa v) ≠ s) : decR s most = (0, false) := by
  unfold decR
  split
  · rw [if_neg fun hc => h _ hc.2.2.2.1 hc.2.2.2.2 hc.1]
  · rfl
theorem decR_cases (s : ByteArray) (most : Int) (h2 : 0 ≤ most) (h3 : most ≤ 4294967295) : (∃ v, -most ≤ v ∧ v ≤ most ∧ s = ba (Lib.itoa v) ∧ decR s most = (v, true)) ∨ ((∀ v, -most ≤ v → v ≤ most → ba (Lib.itoa v) ≠ s) ∧ decR s most = (0, false)) := by
  by_cases h : ∃ v, -most ≤ v ∧ v ≤ most ∧ ba (Lib.itoa v) = s
  · obtain ⟨v, h0, h1, rfl⟩ := h
    exact .inl ⟨v, h0, h1, rfl, decR_itoa v most h0 h1 h2 h3⟩
  · have h' : ∀ v, -most ≤ v → v ≤ most → ba (Lib.itoa v) ≠ s := fun v a b c => h ⟨v, a, b, c⟩
    exact .inr ⟨h', decR_no s most h'⟩
theorem digits_len : ∀ (n u : Nat), u < 10 ^ n → 0 < n → (Lib.decDigits u).length ≤ n
  | 0, u, _, h => absurd h (by omega)
  | n + 1, u, h, _ => by
    by_cases h10 : u < 10
    · rw [Lib.decDigits_one h10]; simp
    · rw [Lib.decDigits, dif_neg h10]
      have hn : 0 < n := by
        cases n with
        | zero => simp at h; omega
        | succ n => omega
      have := digits_len n (u / 10) (by rw [Nat.pow_succ] at h; omega) hn
      simp
      omega
theorem itoa_len (v : Int) (n : Nat) (hn : 0 < n) (h : v.natAbs < 10 ^ n) : (Lib.itoa v).length ≤ n + 1 := by
  unfold Lib.itoa
  split
  · have := digits_len n v.natAbs h hn
    simp
    omega
  · have := digits_len n v.toNat (by omega) hn
    omega
theorem itoa_pos (v : Int) : 0 < (Lib.itoa v).length := by
  unfold Lib.itoa
  split
  · simp
  · obtain ⟨c, r, e, _, _⟩ := digits_head v.toNat
    rw [e]; simp

/-- What the reference comes to once the digits are read. -/
def fin (l : List UInt8) (most : Int) (sg : Int) : Option Nat → Int × Bool
  | none => (0, false)
  | some m =>
    let v : Int := if sg = 1 then -(m : Int) else m
    if ba (Lib.itoa v) = ba l then (if v > most then (0, false) else if v < -most then (0, false) else (v, true)) else (0, false)
theorem decS_loop (l : List UInt8) (hl : l.length ≤ 11) (most : Int) (hm0 : 0 ≤ most) (hm1 : most ≤ 4294967295) (sg : Int) : ∀ (m i n : Nat), i + m = l.length → n < 10 ^ i →
    Ev (fun k => spec_DecNum.l16 k (ba l) most sg (n : Int) (i : Int)) (fin l most sg (dv n (l.drop i))) := by
  intro m
  induction m with
  | zero =>
    intro i n hi hn
    obtain rfl : i = l.length := by omega
    have hb : n < 10 ^ 11 := Nat.lt_of_lt_of_le hn (Nat.pow_le_pow_right (by omega) hl)
    rw [List.drop_length, dv]
    refine Ev.step ?_
    simp only [spec_DecNum.l16, ba_size]
    refine Ev.ite_neg (by omega) ?_
    have hwm : wrap64 (0 - most) = -most := by unfold wrap64; omega
    have hwn : wrap64 (0 - (n : Int)) = -(n : Int) := by unfold wrap64; omega
    simp only [hwm, hwn]
    unfold fin
    refine Ev.ite_both (fun hs => ?_) fun hs => ?_
    · simp only [if_pos hs]
      refine Ev.bind (dec_ev (-(n : Int)) (by omega) (by omega)) ?_
      refine Ev.ite_both (fun h => ?_) fun h => ?_
      · rw [if_pos h]
        refine Ev.ite_both (fun h => ?_) fun h => ?_
        · rw [if_pos h]; exact Ev.ret _
        · rw [if_neg h]
          refine Ev.ite_both (fun h => ?_) fun h => ?_
          · rw [if_pos h]; exact Ev.ret _
          · rw [if_neg h]; exact Ev.ret _
      · rw [if_neg h]; exact Ev.ret _
    · simp only [if_neg hs]
      refine Ev.bind (dec_ev (n : Int) (by omega) (by omega)) ?_
      refine Ev.ite_both (fun h => ?_) fun h => ?_
      · rw [if_pos h]
        refine Ev.ite_both (fun h => ?_) fun h => ?_
        · rw [if_pos h]; exact Ev.ret _
        · rw [if_neg h]
          refine Ev.ite_both (fun h => ?_) fun h => ?_
          · rw [if_pos h]; exact Ev.ret _
          · rw [if_neg h]; exact Ev.ret _
      · rw [if_neg h]; exact Ev.ret _
  | succ m ih =>
    intro i n hi hn
    have hlt : i < l.length := by omega
    have hb : n < 10 ^ 11 := Nat.lt_of_lt_of_le hn (Nat.pow_le_pow_right (by omega) (by omega))
    have hd : l.drop i = l[i] :: l.drop (i + 1) := List.drop_eq_getElem_cons hlt
    have hi1 : wrap64 ((i : Int) + 1) = ((i + 1 : Nat) : Int) := by unfold wrap64; omega
    have hc := l[i].toNat_lt
    rw [hd, dv]
    have ih' := ih (i + 1) (n * 10 + (l[i].toNat - 48)) (by omega)
    have hpow : 10 ^ (i + 1) = 10 ^ i * 10 := Nat.pow_succ 10 i
    refine Ev.step ?_
    simp only [spec_DecNum.l16, ba_size, bt_ba l i hlt, hi1]
    refine Ev.ite_pos (by omega) (Ev.ite_pos (by omega) (Ev.ite_pos (by omega) ?_))
    generalize l[i].toNat = c at *
    have w1 : wrap64 (c : Int) = c := by unfold wrap64; omega
    have w2 : wrap64 ((c : Int) - 48) = (c : Int) - 48 := by unfold wrap64; omega
    have w3 : wrap64 (10 * (n : Int)) = 10 * (n : Int) := by unfold wrap64; omega
    have w4 : wrap64 (10 * (n : Int) + ((c : Int) - 48)) = 10 * (n : Int) + ((c : Int) - 48) := by unfold wrap64; omega
    simp only [w1, w2, w3, w4]
    unfold spec_l01In.f
    by_cases hdg : 48 ≤ c ∧ c ≤ 57
    · rw [if_pos hdg, if_pos (by omega)]
      have e9 : ((c : Int) - 48 ≤ 9) := by omega
      simp only [Option.bind_some, decide_eq_true_eq]
      refine Ev.ite_pos e9 ?_
      have e : (10 * (n : Int) + ((c : Int) - 48)) = ((n * 10 + (c - 48) : Nat) : Int) := by omega
      rw [e]
      exact ih' (by omega)
    · rw [if_neg hdg]
      by_cases h48 : (c : Int) - 48 ≥ 0
      · rw [if_pos h48]
        have e9 : ¬ ((c : Int) - 48 ≤ 9) := by omega
        simp only [Option.bind_some, decide_eq_true_eq]
        exact Ev.ite_neg e9 (Ev.ret _)
      · rw [if_neg h48]
        simp only [Option.bind_some]
        exact Ev.ite_neg (by simp) (Ev.ret _)
theorem decS_ev (s : ByteArray) (most : Int) (hm0 : 0 ≤ most) (hm1 : most ≤ 4294967295) : Ev (fun k => spec_DecNum.f k s most) (decR s most) := by
  obtain ⟨l, rfl⟩ : ∃ l, s = ba l := ⟨_, (ba_list s).symm⟩
  unfold spec_DecNum.f spec_l01In.f
  rw [if_pos (by omega)]
  simp only [Option.bind_some, decide_eq_true_eq]
  refine Ev.ite_pos hm1 ?_
  simp only [ba_size]
  have hno : ∀ P : Prop, (∀ v, -most ≤ v → v ≤ most → ba (Lib.itoa v) = ba l → False) → decR (ba l) most = (0, false) := fun _ h => decR_no _ _ fun v a b c => h v a b c
  refine Ev.ite_both (fun h => ?_) fun hne => Ev.ite_both (fun h => ?_) fun h11 => ?_
  · refine (Ev.ret _).cast (hno True fun v _ _ e => ?_).symm
    have := itoa_pos v
    rw [ba_inj e] at this
    omega
  · refine (Ev.ret _).cast (hno True fun v a b e => ?_).symm
    have := itoa_len v 10 (by omega) (by omega)
    rw [ba_inj e] at this
    omega
  refine Ev.ite_pos (by omega) ?_
  match l, hne, h11 with
  | c :: r, hne, h11 =>
    have hb : bt (ba (c :: r)) 0 = (c.toNat : Int) := bt_ba (c :: r) 0 (by simp)
    have hl : (c :: r).length ≤ 11 := by omega
    simp only [hb]
    refine Ev.ite_both (fun h45 => ?_) fun h45 => ?_
    · have hc : c = 45 := UInt8.toNat_inj.1 (by show c.toNat = 45; omega)
      subst hc
      refine (decS_loop (45 :: r) hl most hm0 hm1 1 r.length 1 0 (by simp; omega) (by decide)).cast ?_
      show fin (45 :: r) most 1 (dv 0 r) = _
      rcases decR_cases (ba (45 :: r)) most hm0 hm1 with ⟨v, a, b, e, hd⟩ | ⟨h, hd⟩
      · rw [hd]
        have e := ba_inj e
        unfold Lib.itoa at e
        split at e
        · rename_i hn
          have hr : r = Lib.decDigits v.natAbs := by simpa using e
          rw [hr, dv_digits]
          have hv : -((v.natAbs : Nat) : Int) = v := by omega
          simp only [fin, if_true, hv]
          have hi : Lib.itoa v = 45 :: Lib.decDigits v.natAbs := by unfold Lib.itoa; rw [if_pos hn]
          rw [if_pos (by rw [hi]), if_neg (by omega), if_neg (by omega)]
        · obtain ⟨c', r', e', d0, d1⟩ := digits_head v.toNat
          rw [e'] at e
          simp only [List.cons.injEq] at e
          have : (45 : UInt8).toNat = c'.toNat := by rw [e.1]
          have h45' : (45 : UInt8).toNat = 45 := rfl
          omega
      · rw [hd]
        unfold fin
        split
        · rfl
        · simp only [if_true]
          split
          · rename_i m hm he
            split
            · rfl
            · split
              · rfl
              · exact absurd he (h _ (by omega) (by omega))
          · rfl
    · refine (decS_loop (c :: r) hl most hm0 hm1 0 (c :: r).length 0 0 (by omega) (by decide)).cast ?_
      rw [List.drop_zero]
      rcases decR_cases (ba (c :: r)) most hm0 hm1 with ⟨v, a, b, e, hd⟩ | ⟨h, hd⟩
      · rw [hd]
        have e := ba_inj e
        unfold Lib.itoa at e
        split at e
        · simp only [List.cons.injEq] at e
          exact absurd (by rw [e.1]; rfl) h45
        · rename_i hn
          rw [e, dv_digits]
          have hv : ((v.toNat : Nat) : Int) = v := by omega
          have h01 : ¬ (0 : Int) = 1 := by decide
          simp only [fin, if_neg h01, hv]
          have hi : Lib.itoa v = Lib.decDigits v.toNat := by unfold Lib.itoa; rw [if_neg hn]
          rw [if_pos (by rw [hi]), if_neg (by omega), if_neg (by omega)]
      · rw [hd]
        unfold fin
        split
        · rfl
        · have h01 : ¬ (0 : Int) = 1 := by decide
          simp only [if_neg h01]
          split
          · rename_i m hm he
            split
            · rfl
            · split
              · rfl
              · exact absurd he (h _ (by omega) (by omega))
          · rfl
theorem decI_eq (s : ByteArray) (most : Int) (h : s.size ≤ 281474976710656) : impl_DecNum.f s most = some (decR s most) := by
  unfold impl_DecNum.f decNumF
  rw [if_pos h]
end Go.Proofs.YtcjfheidmlcbfaaGreatDoor.PPa
