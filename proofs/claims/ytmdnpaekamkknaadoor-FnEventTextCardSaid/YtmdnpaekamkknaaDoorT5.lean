/- Plain Lean: hexadecimal words, names of ops and rows of numerals read back: both models tell the same. -/
import Derived.Test.YtmdnpaekamkknaaDoorT4
import Derived.Test.YtmdnpaekamkknaaDoorT2
set_option linter.unusedVariables false
set_option linter.unusedSimpArgs false
set_option linter.unusedSectionVars false
namespace Go.Proofs.YtmdnpaekamkknaaDoor.PEo
open Go Go.RowKit Go.Proofs.YtmdnpaekamkknaaDoor.V Go.Proofs.YtmdnpaekamkknaaDoor.C

/-! ### Hexadecimal -/
def hdig (c : Nat) : Option Nat := if 48 ≤ c ∧ c ≤ 57 then some (c - 48) else if 97 ≤ c ∧ c ≤ 102 then some (c - 87) else none
def hv (acc : Nat) : List UInt8 → Option Nat
  | [] => some acc
  | c :: r => match hdig c.toNat with
    | some d => hv (acc * 16 + d) r
    | none => none
theorem hdig_A : ∀ c : Fin 256, ∀ d, hdig c.1 = some d → hexA c.1 = some d ∧ d < 16 ∧ hexd d = UInt8.ofNat c.1 := by
  have key : ∀ c : Fin 256, (match hdig c.1 with | some d => decide (hexA c.1 = some d ∧ d < 16 ∧ hexd d = UInt8.ofNat c.1) | none => true) = true := by decide +kernel
  intro c d h
  have := key c
  rw [h] at this
  exact of_decide_eq_true this
theorem hdig_B : ∀ d : Fin 16, hdig (hexd d.1).toNat = some d.1 := by decide +kernel
theorem hv_E : ∀ (l : List UInt8) (acc n : Nat), hv acc l = some n → hexE acc l = some n
  | [], acc, n, h => by cases h; rfl
  | c :: r, acc, n, h => by
    rw [hv] at h
    cases hd : hdig c.toNat with
    | none => rw [hd] at h; cases h
    | some d =>
      rw [hd] at h
      rw [hexE, (hdig_A ⟨c.toNat, c.toNat_lt⟩ d hd).1]
      exact hv_E r _ n h
theorem hv_HD : ∀ (l : List UInt8) (acc n : Nat), hv acc l = some n → n / 16 ^ l.length = acc ∧ HD n l.length = l
  | [], acc, n, h => by cases h; exact ⟨by simp, rfl⟩
  | c :: r, acc, n, h => by
    rw [hv] at h
    cases hd : hdig c.toNat with
    | none => rw [hd] at h; cases h
    | some d =>
      rw [hd] at h
      obtain ⟨h1, h2⟩ := hv_HD r _ n h
      obtain ⟨_, hlt, hx⟩ := hdig_A ⟨c.toNat, c.toNat_lt⟩ d hd
      refine ⟨?_, ?_⟩
      · rw [List.length_cons, ← pow_next, h1]; omega
      · rw [List.length_cons, HD, h1, h2]
        have e : (acc * 16 + d) % 16 = d := by omega
        rw [e, hx]
        simp
theorem hv_some : ∀ (x j acc : Nat), ∃ m, hv acc (HD x j) = some m
  | x, 0, acc => ⟨acc, rfl⟩
  | x, j + 1, acc => by
    rw [HD, hv, hdig_B ⟨x / 16 ^ j % 16, Nat.mod_lt _ (by omega)⟩]
    exact hv_some x j _
theorem hv_lt : ∀ (l : List UInt8) (acc m n : Nat), acc < 16 ^ n → hv acc l = some m → m < 16 ^ (n + l.length)
  | [], acc, m, n, ha, h => by cases h; exact ha
  | c :: r, acc, m, n, ha, h => by
    rw [hv] at h
    cases hd : hdig c.toNat with
    | none => rw [hd] at h; cases h
    | some d =>
      rw [hd] at h
      have hlt := (hdig_A ⟨c.toNat, c.toNat_lt⟩ d hd).2.1
      have := hv_lt r (acc * 16 + d) m (n + 1) (by rw [Nat.pow_succ]; omega) h
      rw [List.length_cons, ← Nat.add_assoc, Nat.add_right_comm]
      exact this
/-- What a hexadecimal word reads as. -/
def hexR (s : ByteArray) : Int × Bool := if s.size = 8 then (match hv 0 s.data.toList with | some n => ((n : Int), true) | none => (0, false)) else (0, false)
theorem hexS_read (l : List UInt8) (hl : l.length = 8) : ∀ (m i n : Nat), i + m = 8 → n < 16 ^ i →
    Ev (fun k => spec_WordHex.l10 k (ba l) (n : Int) (i : Int)) (match hv n (l.drop i) with | some n => ((n : Int), true) | none => (0, false)) := by
  intro m
  induction m with
  | zero =>
    intro i n hi hn
    obtain rfl : i = 8 := by omega
    have hdr : l.drop 8 = [] := List.drop_eq_nil_of_le (by omega)
    rw [hdr, hv]
    have hb : n < 4294967296 := hn
    refine Ev.step ?_
    simp only [spec_WordHex.l10]
    refine Ev.ite_neg (by omega) ((Ev.ret _).cast ?_)
    have : IntKind.wrap .u32 (n : Int) = n := by rw [IntKind.wrap_u32]; omega
    rw [this]
  | succ m ih =>
    intro i n hi hn
    have hlt : i < l.length := by omega
    have hb : n < 16 ^ 7 := Nat.lt_of_lt_of_le hn (Nat.pow_le_pow_right (by omega) (by omega))
    have hb : n < 268435456 := hb
    have hd : l.drop i = l[i] :: l.drop (i + 1) := List.drop_eq_getElem_cons hlt
    have hi1 : wrap64 ((i : Int) + 1) = ((i + 1 : Nat) : Int) := by unfold wrap64; omega
    have hc := l[i].toNat_lt
    rw [hd, hv]
    have ih' := fun n' => ih (i + 1) n' (by omega)
    have hpow : 16 ^ (i + 1) = 16 ^ i * 16 := Nat.pow_succ 16 i
    refine Ev.step ?_
    simp only [spec_WordHex.l10, ba_size, bt_ba l i hlt, hi1]
    refine Ev.ite_pos (by omega) (Ev.ite_pos (by omega) (Ev.ite_pos (by omega) ?_))
    generalize l[i].toNat = c at *
    clear hd hlt
    have w1 : wrap64 (c : Int) = c := by unfold wrap64; omega
    have w3 : wrap64 (16 * (n : Int)) = 16 * (n : Int) := by unfold wrap64; omega
    have w4 : wrap64 (16 * (n : Int) + (c : Int)) = 16 * (n : Int) + c := by unfold wrap64; omega
    have w5 : wrap64 (16 * (n : Int) + (c : Int) - 48) = 16 * (n : Int) + c - 48 := by unfold wrap64; omega
    have w6 : wrap64 (16 * (n : Int) + (c : Int) - 87) = 16 * (n : Int) + c - 87 := by unfold wrap64; omega
    simp only [w1, w3, w4, w5, w6]
    have hin : ∀ a b : Int, spec_l01In.f (c : Int) a b = some (decide (a ≤ (c : Int) ∧ (c : Int) ≤ b)) := by
      intro a b
      unfold spec_l01In.f
      by_cases h : (c : Int) ≥ a
      · rw [if_pos h]; simp [h]
      · rw [if_neg h]
        have : ¬ a ≤ (c : Int) := h
        simp [this]
    simp only [hin, Option.bind_some, decide_eq_true_eq]
    by_cases h1 : 48 ≤ c ∧ c ≤ 57
    · refine Ev.ite_pos (by omega) ?_
      have e : 16 * (n : Int) + (c : Int) - 48 = ((n * 16 + (c - 48) : Nat) : Int) := by omega
      have hh : hdig c = some (c - 48) := by unfold hdig; rw [if_pos h1]
      rw [e, hh]
      exact ih' _ (by omega)
    · refine Ev.ite_neg (by omega) ?_
      by_cases h2 : 97 ≤ c ∧ c ≤ 102
      · refine Ev.ite_pos (by omega) ?_
        have e : 16 * (n : Int) + (c : Int) - 87 = ((n * 16 + (c - 87) : Nat) : Int) := by omega
        have hh : hdig c = some (c - 87) := by unfold hdig; rw [if_neg h1, if_pos h2]
        rw [e, hh]
        exact ih' _ (by omega)
      · refine Ev.ite_neg (by omega) ?_
        have hh : hdig c = none := by unfold hdig; rw [if_neg h1, if_neg h2]
        rw [hh]
        exact Ev.ret _
theorem hexSR_ev (s : ByteArray) : Ev (fun k => spec_WordHex.f k s) (hexR s) := by
  obtain ⟨l, rfl⟩ : ∃ l, s = ba l := ⟨_, (ba_list s).symm⟩
  unfold spec_WordHex.f hexR
  simp only [ba_size, list_ba]
  by_cases h : l.length = 8
  · rw [if_pos h]
    refine Ev.ite_pos (by omega) ?_
    exact hexS_read l h 8 0 0 (by omega) (by decide)
  · rw [if_neg h]
    exact Ev.ite_neg (by omega) (Ev.ret _)
theorem hx_l : ∀ (k : Nat) (x y : Int) (h : List Int), PHx.impl_hexWord.l6 k x y h = impl_hexWord.l6 k x y h := by
  intro k
  induction k with
  | zero => intros; rfl
  | succ k ih => intro x y h; simp only [PHx.impl_hexWord.l6, impl_hexWord.l6, ih]
theorem hx_f (k : Nat) (x : Int) : PHx.impl_hexWord.f k x = impl_hexWord.f k x := hx_l k _ _ _
theorem hexIR_ev (s : ByteArray) : Ev (fun k => impl_WordHex.f k s) (hexR s) := by
  unfold impl_WordHex.f wordHexF hexR
  by_cases h : s.size = 8
  · simp only [if_pos h]
    have hl : s.data.toList.length = 8 := by rw [← Lib.size_eq]; exact h
    cases hE : hexE 0 s.data.toList with
    | some n =>
      have hlt := hexE_lt s.data.toList 0 n 0 (by decide) hE
      rw [hl] at hlt
      have hlt : n < 4294967296 := hlt
      obtain ⟨K, hK⟩ := hexI_ev (n : Int) (by omega) (by omega)
      refine ⟨K, fun k hk => ?_⟩
      simp only [hx_f, hK k hk, Int.toNat_natCast]
      cases hq : hv 0 s.data.toList with
      | some m =>
        have h1 := hv_E _ _ _ hq
        rw [hE] at h1
        cases h1
        obtain ⟨_, h2⟩ := hv_HD _ _ _ hq
        rw [hl] at h2
        rw [h2, ba_list, if_pos rfl]
      | none =>
        rw [if_neg]
        intro e
        have e := congrArg (fun s : ByteArray => s.data.toList) e
        simp only [list_ba] at e
        obtain ⟨m, hm⟩ := hv_some n 8 0
        rw [e, hq] at hm
        cases hm
    | none =>
      cases hq : hv 0 s.data.toList with
      | some m => rw [hv_E _ _ _ hq] at hE; cases hE
      | none => exact Ev.ret _
  · simp only [if_neg h]
    exact Ev.ret _

/-! ### Ops' names -/
theorem names_eq : spec_l02Names.f = some opNs := by decide +kernel
theorem ns_len : opNs.length = 33 := by decide +kernel
theorem opOf_loop (s : ByteArray) : ∀ m i : Nat, i + m = 33 → Ev (fun k => spec_OpOf.l4 k s (i : Int)) (Lib.idxFromS (opNs.drop i) s i) := by
  intro m
  induction m with
  | zero =>
    intro i hi
    obtain rfl : i = 33 := by omega
    refine Ev.step ?_
    simp only [spec_OpOf.l4]
    refine Ev.ite_neg (by omega) ((Ev.ret _).cast ?_)
    rw [List.drop_eq_nil_of_le (by rw [ns_len]; omega)]
    rfl
  | succ m ih =>
    intro i hi
    have hlt : i < opNs.length := by rw [ns_len]; omega
    have hd : opNs.drop i = opNs[i] :: opNs.drop (i + 1) := List.drop_eq_getElem_cons hlt
    have hi1 : wrap64 ((i : Int) + 1) = ((i + 1 : Nat) : Int) := by unfold wrap64; omega
    have hr : rd_str opNs (i : Int) = opNs[i] := by
      show opNs.getD (i : Int).toNat ByteArray.empty = _
      rw [Int.toNat_natCast, List.getD_eq_getElem?_getD, List.getElem?_eq_getElem hlt]
      rfl
    refine Ev.step ?_
    simp only [spec_OpOf.l4, names_eq, Option.bind_some, hi1, hr, ns_len]
    refine Ev.ite_pos (by omega) (Ev.ite_pos (by omega) (Ev.ite_pos (by omega) ?_))
    rw [hd]
    refine Ev.ite_both (fun h => ?_) fun h => ?_
    · refine (Ev.ret _).cast ?_
      simp [Lib.idxFromS, h]
    · refine (ih (i + 1) (by omega)).cast ?_
      simp [Lib.idxFromS, h]
def opV (s : ByteArray) : Int := Lib.idxOfS opNs s
theorem opS_ev (s : ByteArray) : Ev (fun k => spec_OpOf.f k s) (opV s) := opOf_loop s 33 0 rfl
theorem opI_eq (s : ByteArray) : impl_OpOf.f s = some (opV s) := rfl

/-! ### Rows of numerals -/
def numsS (h : List Int) : List ByteArray → List Int × Bool
  | [] => (h, true)
  | w :: r => if (decR w 1000000).2 = true then numsS (h ++ [(decR w 1000000).1]) r else (h, false)
def numsI (h : List Int) : List ByteArray → List Int × Bool
  | [] => (h, true)
  | w :: r => if (decR w 1000000).2 = true then numsI (h ++ [(decR w 1000000).1]) r else ([], false)
theorem nums_same : ∀ (r : List ByteArray) (h : List Int), (numsS h r).2 = (numsI h r).2 ∧ ((numsS h r).2 = true → (numsI h r).1 = (numsS h r).1 ∧ (numsS h r).1 = h ++ r.map (fun w => (decR w 1000000).1) ∧ ∀ w, w ∈ r → (decR w 1000000).2 = true)
  | [], h => ⟨rfl, fun _ => ⟨rfl, by simp [numsS], fun w hw => by cases hw⟩⟩
  | w :: r, h => by
    rw [numsS, numsI]
    split
    · rename_i hd
      obtain ⟨h1, h2⟩ := nums_same r (h ++ [(decR w 1000000).1])
      refine ⟨h1, fun ht => ?_⟩
      obtain ⟨h3, h4, h5⟩ := h2 ht
      refine ⟨h3, by rw [h4]; simp, fun x hx => ?_⟩
      rcases List.mem_cons.1 hx with rfl | hx
      · exact hd
      · exact h5 x hx
    · exact ⟨rfl, fun ht => by cases ht⟩
theorem numsS_loop (W : List ByteArray) (hW : W.length ≤ 1000) : ∀ (m i : Nat) (h : List Int), i + m = W.length → h.length ≤ i → Ev (fun k => spec_l14Nums.l6 k W (i : Int) h) (numsS h (W.drop i)) := by
  intro m
  induction m with
  | zero =>
    intro i h hi hh
    obtain rfl : i = W.length := by omega
    rw [List.drop_length, numsS]
    refine Ev.step ?_
    simp only [spec_l14Nums.l6]
    exact Ev.ite_neg (by omega) (Ev.ret _)
  | succ m ih =>
    intro i h hi hh
    have hlt : i < W.length := by omega
    have hd : W.drop i = W[i] :: W.drop (i + 1) := List.drop_eq_getElem_cons hlt
    have hi1 : wrap64 ((i : Int) + 1) = ((i + 1 : Nat) : Int) := by unfold wrap64; omega
    have hr : rd_str W (i : Int) = W[i] := by
      show W.getD (i : Int).toNat ByteArray.empty = _
      rw [Int.toNat_natCast, List.getD_eq_getElem?_getD, List.getElem?_eq_getElem hlt]
      rfl
    refine Ev.step ?_
    simp only [spec_l14Nums.l6, hr, hi1]
    rw [hd, numsS]
    refine Ev.ite_pos (by omega) (Ev.ite_pos (by omega) (Ev.ite_pos (by omega) (Ev.bind (decS_ev W[i] 1000000 (by omega) (by omega)) (Ev.ite_both (fun ht => ?_) fun ht => ?_))))
    · rw [if_pos ht]
      exact Ev.ite_pos (by simp; omega) (ih (i + 1) _ (by omega) (by simp; omega))
    · rw [if_neg ht]
      exact Ev.ret _
theorem numsS_ev (W : List ByteArray) (hW : W.length ≤ 1000) : Ev (fun k => spec_l14Nums.f k W) (numsS [] W) := numsS_loop W hW W.length 0 [] (by omega) (Nat.le_refl _)
theorem numsI_loop (W : List ByteArray) (hW : W.length ≤ 1000) (hs : ∀ w, w ∈ W → w.size ≤ 281474976710656) : ∀ (m i : Nat) (h : List Int), i + m = W.length → h.length ≤ i → Ev (fun k => impl_confNumbers.l6 k W (W.length : Int) (i : Int) h) (numsI h (W.drop i)) := by
  intro m
  induction m with
  | zero =>
    intro i h hi hh
    obtain rfl : i = W.length := by omega
    rw [List.drop_length, numsI]
    refine Ev.step ?_
    simp only [impl_confNumbers.l6]
    exact Ev.ite_neg (by omega) (Ev.ret _)
  | succ m ih =>
    intro i h hi hh
    have hlt : i < W.length := by omega
    have hd : W.drop i = W[i] :: W.drop (i + 1) := List.drop_eq_getElem_cons hlt
    have hi1 : wrap64 ((i : Int) + 1) = ((i + 1 : Nat) : Int) := by unfold wrap64; omega
    have hr : rd_str W (i : Int) = W[i] := by
      show W.getD (i : Int).toNat ByteArray.empty = _
      rw [Int.toNat_natCast, List.getD_eq_getElem?_getD, List.getElem?_eq_getElem hlt]
      rfl
    refine Ev.step ?_
    simp only [impl_confNumbers.l6, hr, hi1, decI_eq W[i] 1000000 (hs _ (List.getElem_mem hlt)), Option.bind_some]
    rw [hd, numsI]
    refine Ev.ite_pos (by omega) (Ev.ite_pos (by omega) (Ev.ite_pos (by omega) (Ev.ite_both (fun ht => ?_) fun ht => ?_)))
    · rw [if_pos ht]
      exact Ev.ite_pos (by simp; omega) (ih (i + 1) _ (by omega) (by simp; omega))
    · rw [if_neg ht]
      exact Ev.ret _
theorem numsI_ev (W : List ByteArray) (hW : W.length ≤ 1000) (hs : ∀ w, w ∈ W → w.size ≤ 281474976710656) : Ev (fun k => impl_confNumbers.f k W) (numsI [] W) := numsI_loop W hW hs W.length 0 [] (by omega) (Nat.le_refl _)
end Go.Proofs.YtmdnpaekamkknaaDoor.PEo
