/- Plain Lean over the printed functions: what draws come to. -/
import Derived.Test.YtcjfheidmlcbfaaGreatDoorSC6
set_option linter.unusedVariables false
set_option linter.unusedSimpArgs false
set_option linter.unusedSectionVars false
namespace Go.Proofs.YtcjfheidmlcbfaaGreatDoor.PSr
open Go Go.RowKit Go.Proofs.YtcjfheidmlcbfaaGreatDoor.V Go.Proofs.YtcjfheidmlcbfaaGreatDoor.C

theorem sameO_self {R : Type} (x : Option R) : sameO x x = x := by unfold sameO; simp

/-- From some fuel on it answers something of which Q holds. -/
def Out {β : Type} (Q : β → Prop) (x : Nat → Option β) : Prop := ∃ v, Ev x v ∧ Q v
namespace Out
variable {α β : Type}
theorem ret {Q : β → Prop} {v : β} (h : Q v) : Out Q (fun _ => some v) := ⟨v, Ev.ret v, h⟩
theorem bind {Q : α → Prop} {Q' : β → Prop} {g : Nat → Option α} {h : Nat → α → Option β} (hg : Out Q g) (hh : ∀ v, Q v → Out Q' (fun k => h k v)) : Out Q' (fun k => (g k).bind (h k)) := by
  obtain ⟨v, h1, h2⟩ := hg
  obtain ⟨u, h3, h4⟩ := hh v h2
  exact ⟨u, Ev.bind h1 h3, h4⟩
theorem step {Q : β → Prop} {g : Nat → Option β} (h : Out Q (fun k => g (k + 1))) : Out Q g := by
  obtain ⟨v, h1, h2⟩ := h; exact ⟨v, Ev.step h1, h2⟩
theorem ite_pos {Q : β → Prop} {c : Prop} [Decidable c] {g h : Nat → Option β} (hc : c) (hg : Out Q g) : Out Q (fun k => if c then g k else h k) := by
  obtain ⟨v, h1, h2⟩ := hg; exact ⟨v, Ev.ite_pos hc h1, h2⟩
theorem ite_neg {Q : β → Prop} {c : Prop} [Decidable c] {g h : Nat → Option β} (hc : ¬ c) (hg : Out Q h) : Out Q (fun k => if c then g k else h k) := by
  obtain ⟨v, h1, h2⟩ := hg; exact ⟨v, Ev.ite_neg hc h1, h2⟩
theorem ite {Q : β → Prop} {c : Prop} [Decidable c] {g h : Nat → Option β} (hg : c → Out Q g) (hh : ¬ c → Out Q h) : Out Q (fun k => if c then g k else h k) := by
  by_cases hc : c
  · exact ite_pos hc (hg hc)
  · exact ite_neg hc (hh hc)
theorem mono {Q Q' : β → Prop} {x : Nat → Option β} (h : Out Q x) (hq : ∀ v, Q v → Q' v) : Out Q' x := by
  obtain ⟨v, h1, h2⟩ := h; exact ⟨v, h1, hq v h2⟩
theorem ev {Q : β → Prop} {x : Nat → Option β} {v : β} (h : Ev x v) (hq : Q v) : Out Q x := ⟨v, h, hq⟩
theorem get {x : Nat → Option β} {v : β} (h : Out (· = v) x) : Ev x v := by obtain ⟨u, h1, rfl⟩ := h; exact h1
end Out

/-- A cursor that stands right. -/
structure Cur (y : S162) : Prop where
  pos : 0 ≤ y.f1
  len : y.f0.length ≤ 2097152

theorem and_255 (a : Int) : 0 ≤ bitAnd .i64 a 255 ∧ bitAnd .i64 a 255 ≤ 255 := by
  have h1 : (BitVec.ofInt 64 a &&& BitVec.ofInt 64 255).toNat ≤ 255 := by
    rw [BitVec.toNat_and]
    exact Nat.le_trans Nat.and_le_right (by decide)
  have h2 : bitAnd .i64 a 255 = IntKind.wrap .i64 ((BitVec.ofInt 64 a &&& BitVec.ofInt 64 255).toNat : Int) := rfl
  rw [h2]
  generalize (BitVec.ofInt 64 a &&& BitVec.ofInt 64 255).toNat = m at h1
  have h3 : IntKind.wrap .i64 (m : Int) = wrap64 (m : Int) := (wrapK_eq .i64 _).symm
  rw [h3, wrap_of (by omega) (by omega)]
  omega

theorem byte_out {y : S162} (c : Cur y) : Out (fun z => (0 ≤ z.1 ∧ z.1 ≤ 255) ∧ Cur z.2) (fun _ => spec_l01Byte_o1.f y) := by
  obtain ⟨c1, c2⟩ := c
  unfold spec_l01Byte_o1.f
  try simp only [lenZ_eq]
  refine Out.ite (fun h => Out.ite_pos c1 (Out.ite_pos h (Out.ret ⟨and_255 _, ?_, ?_⟩))) fun h => Out.ret ⟨and_255 _, c1, c2⟩
  · show 0 ≤ wrap64 (y.f1 + 1)
    rw [wrap_of (by omega) (by omega)]; omega
  · exact c2

theorem below_out {y : S162} (c : Cur y) {n : Int} (hn : 0 < n) : Out (fun z => (0 ≤ z.1 ∧ z.1 < n) ∧ Cur z.2) (fun _ => spec_l01Below_o1.f n y) := by
  first | (unfold spec_l01Below_o1.f; rw [spec_l01Below_o1.fs_eq]; unfold spec_l01Below_o1.fb) | unfold spec_l01Below_o1.f
  refine Out.ite_neg (by omega) (Out.ite (fun h => ?_) fun h => ?_)
  · refine Out.bind (byte_out c) fun z hz => Out.ite_neg (by omega) (Out.ret ⟨⟨?_, ?_⟩, hz.2⟩)
    · exact Int.tmod_nonneg _ hz.1.1
    · exact Int.tmod_lt_of_pos _ hn
  · refine Out.bind (byte_out c) fun z hz => Out.bind (byte_out hz.2) fun z2 hz2 => Out.bind (byte_out hz2.2) fun z3 hz3 => Out.bind (byte_out hz3.2) fun z4 hz4 => Out.ite_neg (by omega) (Out.ret ⟨⟨?_, ?_⟩, hz4.2⟩)
    · refine Int.tmod_nonneg _ ?_
      obtain ⟨⟨a1, a2⟩, _⟩ := hz
      obtain ⟨⟨b1, b2⟩, _⟩ := hz2
      obtain ⟨⟨d1, d2⟩, _⟩ := hz3
      obtain ⟨⟨e1, e2⟩, _⟩ := hz4
      rw [wrap_of (a := z.1 * 16777216) (by omega) (by omega), wrap_of (a := z2.1 * 65536) (by omega) (by omega), wrap_of (a := z3.1 * 256) (by omega) (by omega), wrap_of (a := z.1 * 16777216 + z2.1 * 65536) (by omega) (by omega), wrap_of (a := z.1 * 16777216 + z2.1 * 65536 + z3.1 * 256) (by omega) (by omega), wrap_of (by omega) (by omega)]
      omega
    · exact Int.tmod_lt_of_pos _ hn
theorem below_any {y : S162} (c : Cur y) (n : Int) : Out (fun z => 0 ≤ z.1 ∧ (0 < n → z.1 < n) ∧ (n ≤ 0 → z.1 = 0) ∧ Cur z.2) (fun _ => spec_l01Below_o1.f n y) := by
  by_cases h : 0 < n
  · exact (below_out c h).mono fun z hz => ⟨hz.1.1, fun _ => hz.1.2, fun h' => absurd h (by omega), hz.2⟩
  · first | (unfold spec_l01Below_o1.f; rw [spec_l01Below_o1.fs_eq]; unfold spec_l01Below_o1.fb) | unfold spec_l01Below_o1.f
    exact Out.ite_pos (by omega) (Out.ret ⟨Int.le_refl _, fun h' => absurd h' h, fun _ => rfl, c⟩)
theorem once_out {y : S162} (c : Cur y) (n : Int) : Out (fun z => Cur z.2) (fun _ => spec_l01Once_o1.f n y) := by
  unfold spec_l01Once_o1.f
  try simp only [lenZ_eq]
  exact Out.bind (below_any c n) fun z hz => Out.ret hz.2.2.2
theorem pick_out {y : S162} (c : Cur y) {l : List Int} (hl : l ≠ []) : Out (fun z => z.1 ∈ l ∧ Cur z.2.1) (fun _ => spec_l01PickInt_o1.f y l) := by
  have h0 : 0 < l.length := List.length_pos_iff.2 hl
  unfold spec_l01PickInt_o1.f
  try simp only [lenZ_eq]
  refine Out.bind (below_out c (n := (l.length : Int)) (by omega)) fun z hz => Out.ite_pos hz.1.1 (Out.ite_pos hz.1.2 (Out.ret ⟨?_, hz.2⟩))
  exact getD_mem (z := (0 : Int)) (by have := hz.1; omega)

theorem new_out (code : List Int) (h : code.length ≤ 2097152) : Out (fun z => Cur z) (fun k => spec_l01New.f k code) := by
  unfold spec_l01New.f
  try simp only [lenZ_eq]
  have key : ∀ (m i : Nat) (x : Int), i + m = code.length → Out (fun z => Cur z) (fun k => spec_l01New.l6 k code x (i : Int)) := by
    intro m
    induction m with
    | zero =>
      intro i x hi
      refine Out.step ?_
      simp only [lenZ_eq, spec_l01New.l6]
      exact Out.ite_neg (by omega) (Out.ret ⟨Int.le_refl _, h⟩)
    | succ m ih =>
      intro i x hi
      refine Out.step ?_
      simp only [lenZ_eq, spec_l01New.l6]
      refine Out.ite_pos (by omega) (Out.ite (fun _ => Out.ite_pos (by omega) (Out.ite_pos (by omega) ?_)) fun _ => Out.ret ⟨Int.le_refl _, h⟩)
      rw [wrap_of (a := (i : Int) + 1) (by omega) (by omega)]
      exact ih (i + 1) _ (by omega)
  exact key code.length 0 _ (by omega)

theorem policy_out {y : S162} (c : Cur y) : Out (fun z => policyB z.1 = true ∧ Cur z.2) (fun _ => spec_l10Policy_o1.f y) := by
  unfold spec_l10Policy_o1.f
  try simp only [lenZ_eq]
  refine Out.bind (below_out c (n := 3) (by omega)) fun z hz => Out.ite (fun h => ?_) fun h => Out.ret ⟨?_, hz.2⟩
  · refine Out.bind (pick_out hz.2 (by simp)) fun z2 hz2 => Out.ret ⟨?_, hz2.2⟩
    have h2 := hz2.1
    simp only [List.mem_cons, List.not_mem_nil, or_false] at h2
    show (if z.1 = 1 then inB z2.1 0 100 else _) = true
    rw [if_pos h, in_iff]
    omega
  · show (if z.1 = 1 then _ else if z.1 = 0 then decide ((0 : Int) = 0) else if z.1 = 2 then decide ((0 : Int) = 0) else false) = true
    rw [if_neg h]
    obtain ⟨⟨h1, h2⟩, _⟩ := hz
    have : z.1 = 0 ∨ z.1 = 2 := by omega
    rcases this with e | e
    · rw [if_pos e]; rfl
    · rw [if_neg (by omega), if_pos e]; rfl

/-- A drawn channel between n partitions. -/
structure RowIn (n : Int) (r : S77) : Prop where
  ok : chanB r = true
  fr : 0 ≤ r.f1 ∧ r.f1 < n
  to : 0 ≤ r.f2 ∧ r.f2 < n
theorem row_out {y : S162} (c : Cur y) {n : Int} (hn : 2 ≤ n ∧ n ≤ 6) : Out (fun z => RowIn n z.1 ∧ Cur z.2) (fun k => spec_l11Row_o1.f k n y) := by
  unfold spec_l11Row_o1.f
  try simp only [lenZ_eq]
  simp only [sameO_self]
  rw [wrap_of (a := n - 1) (by omega) (by omega)]
  refine Out.bind (below_out c (n := 2) (by omega)) fun z hz => Out.bind (below_out hz.2 (n := n) (by omega)) fun z2 hz2 => Out.bind (below_out hz2.2 (n := n - 1) (by omega)) fun z3 hz3 => Out.ite_neg (by omega) ?_
  obtain ⟨⟨a1, a2⟩, _⟩ := hz
  obtain ⟨⟨b1, b2⟩, _⟩ := hz2
  obtain ⟨⟨d1, d2⟩, c3⟩ := hz3
  rw [wrap_of (a := z2.1 + 1) (by omega) (by omega), wrap_of (a := z2.1 + 1 + z3.1) (by omega) (by omega)]
  have ht : 0 ≤ Int.tmod (z2.1 + 1 + z3.1) n ∧ Int.tmod (z2.1 + 1 + z3.1) n < n ∧ Int.tmod (z2.1 + 1 + z3.1) n ≠ z2.1 := by
    rw [Int.tmod_eq_emod_of_nonneg (by omega)]
    have : n = 2 ∨ n = 3 ∨ n = 4 ∨ n = 5 ∨ n = 6 := by omega
    rcases this with e | e | e | e | e <;> subst e <;> omega
  generalize Int.tmod (z2.1 + 1 + z3.1) n = u at ht
  refine Out.step ?_
  simp only [lenZ_eq, spec_l11Row_o1.l7]
  have fin : ∀ (kd dp : Int) (y' : S162), Cur y' → ((kd = 0 ∧ dp = 0) ∨ (kd = 1 ∧ 1 ≤ dp ∧ dp ≤ 8)) → RowIn n ((kd, z2.1, u, dp) : S77) ∧ Cur y' := by
    intro kd dp y' hy hk
    refine ⟨⟨?_, ⟨b1, b2⟩, ⟨ht.1, ht.2.1⟩⟩, hy⟩
    show (inB z2.1 0 5 && (inB u 0 5 && (!decide (z2.1 = u) && (decide (kd = 0 ∧ dp = 0) || decide (kd = 1 ∧ 1 ≤ dp ∧ dp ≤ 8))))) = true
    simp only [Bool.and_eq_true, in_iff, Bool.not_eq_true', decide_eq_false_iff_not, Bool.or_eq_true, decide_eq_true_eq]
    exact ⟨⟨b1, by omega⟩, ⟨ht.1, by omega⟩, fun e => ht.2.2 e.symm, hk⟩
  refine Out.ite (fun h => ?_) fun h => Out.ret (fin z.1 0 z3.2 c3 (.inl ⟨?_, rfl⟩))
  · have h : z.1 = 1 := h
    refine Out.bind (below_out c3 (n := 4) (by omega)) fun z4 hz4 => Out.bind (once_out hz4.2 6) fun z5 hz5 => Out.ite (fun _ => Out.ret (fin z.1 8 z5.2 hz5 (.inr ⟨h, by omega, by omega⟩))) fun _ => Out.ret (fin z.1 (wrap64 (1 + z4.1)) z5.2 hz5 (.inr ⟨h, ?_⟩))
    obtain ⟨⟨e1, e2⟩, _⟩ := hz4
    rw [wrap_of (by omega) (by omega)]
    omega
  · have h : ¬ z.1 = 1 := h
    omega
end Go.Proofs.YtcjfheidmlcbfaaGreatDoor.PSr
