/- Plain Lean over the printed functions: draws, windows, bytes and words (what the laws on guests share with those on tables). -/
import Derived.Test.YtgnhojiogkeepaaKC1
import Derived.Test.YtgnhojiogkeepaaQPox2
set_option linter.unusedVariables false
set_option linter.unusedSimpArgs false
set_option linter.unusedSectionVars false
namespace Go.Proofs.Ytgnhojiogkeepaa.PPo
open Go Go.RowKit Go.Proofs.Ytgnhojiogkeepaa.V Go.Proofs.Ytgnhojiogkeepaa.C

def inB (a b c : Int) : Bool := decide (b ≤ a ∧ a ≤ c)
theorem in_iff {a b c : Int} : inB a b c = true ↔ b ≤ a ∧ a ≤ c := by simp [inB]
theorem l01In_some (a b c : Int) : spec_l01In.f a b c = some (inB a b c) := by
  unfold spec_l01In.f inB
  split <;> simp [*] <;> omega
theorem within_some (a b c : Int) : impl_within.f a b c = some (inB a b c) := l01In_some a b c
def windowB (w : S40) : Bool := decide (0 ≤ w.f0 ∧ 4 ≤ w.f1 ∧ w.f0 + w.f1 ≤ 2048 ∧ w.f0.tmod 4 = 0 ∧ w.f1.tmod 4 = 0 ∧ 1 ≤ w.f2 ∧ w.f2 ≤ 7)
theorem window_in {w : S40} : windowB w = true ↔ (0 ≤ w.f0 ∧ 4 ≤ w.f1 ∧ w.f0 + w.f1 ≤ 2048 ∧ w.f0.tmod 4 = 0 ∧ w.f1.tmod 4 = 0 ∧ 1 ≤ w.f2 ∧ w.f2 ≤ 7) := by
  unfold windowB; rw [decide_eq_true_eq]
theorem bool_some {b : Bool} {p : Prop} [Decidable p] (h : b = true ↔ p) : some b = some (decide p) := congrArg some (by rw [Bool.eq_iff_iff, h, decide_eq_true_eq])
theorem no_some {p : Prop} [Decidable p] (h : ¬ p) : some false = some (decide p) := by rw [decide_eq_false h]
theorem implWindow (w : S40) : impl_isWindow.f w = some (windowB w) := by
  unfold impl_isWindow.f windowB
  generalize w.f0 = a
  generalize w.f1 = b
  generalize w.f2 = c
  simp only [within_some, Option.bind_some]
  by_cases c1 : inB b 4 2048 = true
  · have c1' := in_iff.1 c1
    rw [if_pos c1, wrap_of (a := 2048 - b) (by omega) (by omega)]
    repeat' split
    all_goals simp only [in_iff] at *
    all_goals first
      | (refine bool_some ?_; rw [in_iff]; omega)
      | (refine no_some ?_; omega)
  · rw [if_neg c1]
    rw [in_iff] at c1
    refine no_some ?_
    omega
theorem specWindow (w : S40) : spec_WindowOk.f w = some (windowB w) := by
  unfold spec_WindowOk.f windowB
  generalize w.f0 = a
  generalize w.f1 = b
  generalize w.f2 = c
  simp only [l01In_some, Option.bind_some]
  by_cases c1 : inB a 0 2048 = true
  · have c1' := in_iff.1 c1
    rw [if_pos c1]
    by_cases c2 : inB b 4 2048 = true
    · have c2' := in_iff.1 c2
      rw [if_pos c2, wrap_of (a := a + b) (by omega) (by omega)]
      repeat' split
      all_goals first
        | (refine bool_some ?_; rw [in_iff]; omega)
        | (refine no_some ?_; omega)
    · rw [if_neg c2]
      rw [in_iff] at c2
      refine no_some ?_
      omega
  · rw [if_neg c1]
    rw [in_iff] at c1
    refine no_some ?_
    omega
def apartB (x y : S40) : Bool := decide (wrap64 (x.f0 + x.f1) ≤ y.f0 ∨ wrap64 (y.f0 + y.f1) ≤ x.f0)
theorem apart_some (x y : S40) : impl_areApart.f x y = some (apartB x y) := by
  unfold impl_areApart.f apartB
  split
  · rw [decide_eq_true (.inl (by assumption))]
  · exact bool_some (by rw [decide_eq_true_eq]; omega)
def hasB (w : S40) (a : Int) : Bool := decide (w.f0 ≤ a ∧ a < wrap64 (w.f0 + w.f1))
theorem has_some (w : S40) (a : Int) : spec_l07Has.f w a = some (hasB w a) := by
  unfold spec_l07Has.f hasB
  split
  · exact bool_some (by rw [decide_eq_true_eq]; omega)
  · exact no_some (by omega)
theorem windowAt1_some (w : S40) (a : Int) : impl_windowAt_1.f w a = some (hasB w a) := by
  unfold impl_windowAt_1.f hasB
  split
  · exact bool_some (by rw [decide_eq_true_eq]; omega)
  · exact no_some (by omega)
theorem idx_window (l : List S40) (x : Int) (hl : l.length ≤ 1048576) : Ev (fun k => slices_IndexFunc_118_119.f k l x) (idxOf (fun v => hasB v x) l 0) := by
  unfold slices_IndexFunc_118_119.f
  refine Ev.idx l z40 _ (fun k i => slices_IndexFunc_118_119.l4 k l x (l.length : Int) i) (Ev.step ?_) (fun i hi hp => Ev.step ?_) (fun i hi hp v hv => Ev.step ?_)
  · simp only [slices_IndexFunc_118_119.l4]; exact Ev.ite_neg (by omega) (Ev.ret _)
  all_goals
    simp only [slices_IndexFunc_118_119.l4, windowAt1_some, Option.bind_some, wrap_succ hi (by omega)]
    refine Ev.ite_pos (lt_in hi) (Ev.ite_pos ge_0 (Ev.ite_pos (lt_in hi) ?_))
  · exact Ev.ite_pos hp (Ev.ret _)
  · exact Ev.ite_neg (fun h => by rw [show hasB (rd_T40 l (i : Int)) x = false from hp] at h; cases h) hv
theorem idxOf_ge {α : Type} (p : α → Bool) : ∀ (l : List α) (k : Int), 0 ≤ k → (idxOf p l k ≥ 0 ↔ l.any p = true)
  | [], k, h => by simp [idxOf]
  | x :: l, k, h => by
    rw [idxOf, List.any_cons]
    cases hp : p x
    · rw [if_neg (by simp), idxOf_ge p l (k + 1) (by omega), Bool.false_or]
    · simp; exact h
theorem idxOf_find {α : Type} (p : α → Bool) (z : α) : ∀ (l : List α) (i0 : Nat), (idxOf p l i0 = -1 ∧ l.any p = false) ∨ ∃ j : Nat, j < l.length ∧ idxOf p l i0 = ((i0 + j : Nat) : Int) ∧ p (l.getD j z) = true ∧ ∀ m, m < j → p (l.getD m z) = false
  | [], i0 => .inl ⟨rfl, rfl⟩
  | x :: l, i0 => by
    by_cases hx : p x = true
    · right
      refine ⟨0, by simp, ?_, by simpa using hx, fun m hm => absurd hm (by omega)⟩
      simp [idxOf, hx]
    · rw [Bool.not_eq_true] at hx
      have e : idxOf p (x :: l) (i0 : Int) = idxOf p l ((i0 + 1 : Nat) : Int) := by
        simp [idxOf, hx]
      rcases idxOf_find p z l (i0 + 1) with ⟨h1, h2⟩ | ⟨j, h1, h2, h3, h4⟩
      · left
        exact ⟨e.trans h1, by simp [hx, h2]⟩
      · right
        refine ⟨j + 1, by simpa using h1, ?_, by simpa using h3, fun m hm => ?_⟩
        · rw [e, h2]; omega
        · cases m with
          | zero => simpa using hx
          | succ m => simpa using h4 m (by omega)
def bts (x : Int) : List Int := [x % 256, x / 256 % 256, x / 65536 % 256, x / 16777216 % 256]
theorem wrap_u8 (n : Int) : IntKind.wrap .u8 n = n % 256 := by
  unfold IntKind.wrap
  simp [IntKind.signed, IntKind.bits]
theorem shr_8 (x : Int) : shr .u32 x 8 = x / 256 := by unfold shr; simp [IntKind.bits]
theorem shr_16 (x : Int) : shr .u32 x 16 = x / 65536 := by unfold shr; simp [IntKind.bits]
theorem shr_24 (x : Int) : shr .u32 x 24 = x / 16777216 := by unfold shr; simp [IntKind.bits]
theorem implBytes (x : Int) : impl_BytesOf.f x = some (bts x) := by
  unfold impl_BytesOf.f bts
  rw [wrap_u8, wrap_u8, wrap_u8, wrap_u8, shr_8, shr_16, shr_24]
theorem specBytes (x : Int) (h : 0 ≤ x ∧ x ≤ 4294967295) : spec_BytesOf.f x = some (bts x) := by
  unfold spec_BytesOf.f bts
  rw [wrap_u8, wrap_u8, wrap_u8, wrap_u8, wrap_of (a := x) (by omega) (by omega), Int.tdiv_eq_ediv_of_nonneg h.1, Int.tdiv_eq_ediv_of_nonneg h.1, Int.tdiv_eq_ediv_of_nonneg h.1,
    wrap_of (a := x / 256) (by omega) (by omega), wrap_of (a := x / 65536) (by omega) (by omega), wrap_of (a := x / 16777216) (by omega) (by omega),
    Int.tmod_eq_emod_of_nonneg h.1, Int.tmod_eq_emod_of_nonneg (by omega), Int.tmod_eq_emod_of_nonneg (by omega)]
  have e : ∀ y : Int, y % 256 % 256 = y % 256 := fun y => by omega
  rw [e, e, e]
theorem spec_at (l : List S40) (x : Int) (hl : l.length ≤ 1048576) : Ev (fun k => spec_l07At.f k l x) (idxOf (fun v => hasB v x) l 0) := by
  unfold spec_l07At.f
  refine Ev.idx l z40 _ (fun k i => spec_l07At.l4 k l x i) (Ev.step ?_) (fun i hi hp => Ev.step ?_) (fun i hi hp v hv => Ev.step ?_)
  · simp only [spec_l07At.l4]; exact Ev.ite_neg (by omega) (Ev.ret _)
  all_goals
    simp only [spec_l07At.l4, has_some, Option.bind_some, wrap_succ hi (by omega)]
    refine Ev.ite_pos (lt_in hi) (Ev.ite_pos ge_0 (Ev.ite_pos (lt_in hi) ?_))
  · exact Ev.ite_pos hp (Ev.ret _)
  · exact Ev.ite_neg (fun h => by rw [show hasB (rd_T40 l (i : Int)) x = false from hp] at h; cases h) hv

theorem sameO_self {R : Type} (x : Option R) : sameO x x = x := by unfold sameO; simp

/-- From some fuel on it answers something of which Q holds. -/
def Out {β : Type} (Q : β → Prop) (x : Nat → Option β) : Prop := ∃ v, Ev x v ∧ Q v
namespace Out
variable {α β : Type}
theorem ret {Q : β → Prop} {v : β} (h : Q v) : Out Q (fun _ => some v) := ⟨v, Ev.ret v, h⟩
theorem bind {Q : α → Prop} {Q' : β → Prop} {g : Nat → Option α} {h : Nat → α → Option β} (hg : Out Q g) (hh : ∀ v, Q v → Out Q' (fun k => h k v)) : Out Q' (fun k => (g k).bind (h k)) := by
  obtain ⟨v, h1, h2⟩ := hg
  obtain ⟨u, h3, h4⟩ := hh v h2
  exact ⟨u, Ev.bind h1 h3, h4⟩
theorem step {Q : β → Prop} {g : Nat → Option β} (h : Out Q (fun k => g (k + 1))) : Out Q g := by
  obtain ⟨v, h1, h2⟩ := h; exact ⟨v, Ev.step h1, h2⟩
theorem ite_pos {Q : β → Prop} {c : Prop} [Decidable c] {g h : Nat → Option β} (hc : c) (hg : Out Q g) : Out Q (fun k => if c then g k else h k) := by
  obtain ⟨v, h1, h2⟩ := hg; exact ⟨v, Ev.ite_pos hc h1, h2⟩
theorem ite_neg {Q : β → Prop} {c : Prop} [Decidable c] {g h : Nat → Option β} (hc : ¬ c) (hg : Out Q h) : Out Q (fun k => if c then g k else h k) := by
  obtain ⟨v, h1, h2⟩ := hg; exact ⟨v, Ev.ite_neg hc h1, h2⟩
theorem ite {Q : β → Prop} {c : Prop} [Decidable c] {g h : Nat → Option β} (hg : c → Out Q g) (hh : ¬ c → Out Q h) : Out Q (fun k => if c then g k else h k) := by
  by_cases hc : c
  · exact ite_pos hc (hg hc)
  · exact ite_neg hc (hh hc)
theorem mono {Q Q' : β → Prop} {x : Nat → Option β} (h : Out Q x) (hq : ∀ v, Q v → Q' v) : Out Q' x := by
  obtain ⟨v, h1, h2⟩ := h; exact ⟨v, h1, hq v h2⟩
theorem ev {Q : β → Prop} {x : Nat → Option β} {v : β} (h : Ev x v) (hq : Q v) : Out Q x := ⟨v, h, hq⟩
theorem get {x : Nat → Option β} {v : β} (h : Out (· = v) x) : Ev x v := by obtain ⟨u, h1, rfl⟩ := h; exact h1
end Out

/-- A cursor that stands right. -/
structure Cur (y : S119) : Prop where
  pos : 0 ≤ y.f1
  len : y.f0.length ≤ 2097152

theorem and_255 (a : Int) : 0 ≤ bitAnd .i64 a 255 ∧ bitAnd .i64 a 255 ≤ 255 := by
  have h1 : (BitVec.ofInt 64 a &&& BitVec.ofInt 64 255).toNat ≤ 255 := by
    rw [BitVec.toNat_and]
    exact Nat.le_trans Nat.and_le_right (by decide)
  have h2 : bitAnd .i64 a 255 = IntKind.wrap .i64 ((BitVec.ofInt 64 a &&& BitVec.ofInt 64 255).toNat : Int) := rfl
  rw [h2]
  generalize (BitVec.ofInt 64 a &&& BitVec.ofInt 64 255).toNat = m at h1
  have h3 : IntKind.wrap .i64 (m : Int) = wrap64 (m : Int) := (wrapK_eq .i64 _).symm
  rw [h3, wrap_of (by omega) (by omega)]
  omega

theorem byte_out {y : S119} (c : Cur y) : Out (fun z => (0 ≤ z.1 ∧ z.1 ≤ 255) ∧ Cur z.2) (fun _ => spec_l01Byte_o1.f y) := by
  obtain ⟨c1, c2⟩ := c
  unfold spec_l01Byte_o1.f
  refine Out.ite (fun h => Out.ite_pos c1 (Out.ite_pos h (Out.ret ⟨and_255 _, ?_, ?_⟩))) fun h => Out.ret ⟨and_255 _, c1, c2⟩
  · show 0 ≤ wrap64 (y.f1 + 1)
    rw [wrap_of (by omega) (by omega)]; omega
  · exact c2

theorem below_out {y : S119} (c : Cur y) {n : Int} (hn : 0 < n) : Out (fun z => (0 ≤ z.1 ∧ z.1 < n) ∧ Cur z.2) (fun _ => spec_l01Below_o1.f n y) := by
  first | (unfold spec_l01Below_o1.f; rw [spec_l01Below_o1.fs_eq]; unfold spec_l01Below_o1.fb) | unfold spec_l01Below_o1.f
  refine Out.ite_neg (by omega) (Out.ite (fun h => ?_) fun h => ?_)
  · refine Out.bind (byte_out c) fun z hz => Out.ite_neg (by omega) (Out.ret ⟨⟨?_, ?_⟩, hz.2⟩)
    · exact Int.tmod_nonneg _ hz.1.1
    · exact Int.tmod_lt_of_pos _ hn
  · refine Out.bind (byte_out c) fun z hz => Out.bind (byte_out hz.2) fun z2 hz2 => Out.bind (byte_out hz2.2) fun z3 hz3 => Out.bind (byte_out hz3.2) fun z4 hz4 => Out.ite_neg (by omega) (Out.ret ⟨⟨?_, ?_⟩, hz4.2⟩)
    · refine Int.tmod_nonneg _ ?_
      obtain ⟨⟨a1, a2⟩, _⟩ := hz
      obtain ⟨⟨b1, b2⟩, _⟩ := hz2
      obtain ⟨⟨d1, d2⟩, _⟩ := hz3
      obtain ⟨⟨e1, e2⟩, _⟩ := hz4
      rw [wrap_of (a := z.1 * 16777216) (by omega) (by omega), wrap_of (a := z2.1 * 65536) (by omega) (by omega), wrap_of (a := z3.1 * 256) (by omega) (by omega), wrap_of (a := z.1 * 16777216 + z2.1 * 65536) (by omega) (by omega), wrap_of (a := z.1 * 16777216 + z2.1 * 65536 + z3.1 * 256) (by omega) (by omega), wrap_of (by omega) (by omega)]
      omega
    · exact Int.tmod_lt_of_pos _ hn
theorem below_any {y : S119} (c : Cur y) (n : Int) : Out (fun z => 0 ≤ z.1 ∧ (0 < n → z.1 < n) ∧ (n ≤ 0 → z.1 = 0) ∧ Cur z.2) (fun _ => spec_l01Below_o1.f n y) := by
  by_cases h : 0 < n
  · exact (below_out c h).mono fun z hz => ⟨hz.1.1, fun _ => hz.1.2, fun h' => absurd h (by omega), hz.2⟩
  · first | (unfold spec_l01Below_o1.f; rw [spec_l01Below_o1.fs_eq]; unfold spec_l01Below_o1.fb) | unfold spec_l01Below_o1.f
    exact Out.ite_pos (by omega) (Out.ret ⟨Int.le_refl _, fun h' => absurd h' h, fun _ => rfl, c⟩)
theorem once_out {y : S119} (c : Cur y) (n : Int) : Out (fun z => Cur z.2) (fun _ => spec_l01Once_o1.f n y) := by
  unfold spec_l01Once_o1.f
  exact Out.bind (below_any c n) fun z hz => Out.ret hz.2.2.2
theorem pick_out {y : S119} (c : Cur y) {l : List Int} (hl : l ≠ []) : Out (fun z => z.1 ∈ l ∧ Cur z.2.1) (fun _ => spec_l01PickInt_o1.f y l) := by
  have h0 : 0 < l.length := List.length_pos_iff.2 hl
  unfold spec_l01PickInt_o1.f
  refine Out.bind (below_out c (n := (l.length : Int)) (by omega)) fun z hz => Out.ite_pos hz.1.1 (Out.ite_pos hz.1.2 (Out.ret ⟨?_, hz.2⟩))
  exact getD_mem (z := (0 : Int)) (by have := hz.1; omega)

theorem new_out (code : List Int) (h : code.length ≤ 2097152) : Out (fun z => Cur z) (fun k => spec_l01New.f k code) := by
  unfold spec_l01New.f
  have key : ∀ (m i : Nat) (x : Int), i + m = code.length → Out (fun z => Cur z) (fun k => spec_l01New.l6 k code x (i : Int)) := by
    intro m
    induction m with
    | zero =>
      intro i x hi
      refine Out.step ?_
      simp only [spec_l01New.l6]
      exact Out.ite_neg (by omega) (Out.ret ⟨Int.le_refl _, h⟩)
    | succ m ih =>
      intro i x hi
      refine Out.step ?_
      simp only [spec_l01New.l6]
      refine Out.ite_pos (by omega) (Out.ite (fun _ => Out.ite_pos (by omega) (Out.ite_pos (by omega) ?_)) fun _ => Out.ret ⟨Int.le_refl _, h⟩)
      rw [wrap_of (a := (i : Int) + 1) (by omega) (by omega)]
      exact ih (i + 1) _ (by omega)
  exact key code.length 0 _ (by omega)
theorem wrap_u32 (n : Int) : IntKind.wrap .u32 n = n % 4294967296 := by
  simp [IntKind.wrap, IntKind.bits, IntKind.signed]
theorem word_out {y : S119} (c : Cur y) : Out (fun z => (0 ≤ z.1 ∧ z.1 ≤ 4294967295) ∧ Cur z.2) (fun _ => spec_l01Word_o1.f y) := by
  have hw : ∀ n : Int, 0 ≤ IntKind.wrap .u32 n ∧ IntKind.wrap .u32 n ≤ 4294967295 := fun n => by rw [wrap_u32]; omega
  unfold spec_l01Word_o1.f
  refine Out.bind (below_out c (n := 4) (by omega)) fun z hz => Out.ite (fun _ => Out.bind (pick_out hz.2 (by simp)) fun u hu => Out.ret ⟨hw _, hu.2⟩) fun _ => Out.ite (fun _ => Out.bind (below_out hz.2 (n := 300) (by omega)) fun u hu => Out.ret ⟨hw _, hu.2⟩) fun _ => Out.bind (below_out hz.2 (n := 65536) (by omega)) fun u hu => Out.bind (below_out hu.2 (n := 65536) (by omega)) fun v hv => Out.ret ⟨hw _, hv.2⟩
theorem ofInt_nat (a : Nat) : BitVec.ofInt 32 (a : Int) = BitVec.ofNat 32 a := by
  apply BitVec.eq_of_toNat_eq
  simp [BitVec.toNat_ofInt, BitVec.toNat_ofNat]
theorem or_add (a b n : Nat) (ha : a < 2 ^ n) (h : 2 ^ n * b + a < 4294967296) : bitOr .u32 (a : Int) ((2 ^ n * b : Nat) : Int) = ((2 ^ n * b + a : Nat) : Int) := by
  unfold bitOr
  show IntKind.wrap .u32 ((BitVec.ofInt 32 (a : Int) ||| BitVec.ofInt 32 ((2 ^ n * b : Nat) : Int)).toNat : Int) = _
  rw [ofInt_nat, ofInt_nat, BitVec.toNat_or, BitVec.toNat_ofNat, BitVec.toNat_ofNat, Nat.mod_eq_of_lt (by omega), Nat.mod_eq_of_lt (by omega), Nat.or_comm, ← Nat.two_pow_add_eq_or_of_lt ha, wrap_u32]
  omega
theorem shl_u32 (x : Int) (n : Nat) (hn : n ≤ 32) (h : 0 ≤ x * 2 ^ n ∧ x * 2 ^ n < 4294967296) : shl .u32 x (n : Int) = x * 2 ^ n := by
  unfold shl
  rw [show min (n : Int).toNat (IntKind.bits .u32) = n by simp [IntKind.bits]; omega, wrap_u32]
  omega
theorem word_some (x : Int) (h : 0 ≤ x ∧ x ≤ 4294967295) : impl_WordOf.f (bts x) = some (x, true) := by
  unfold impl_WordOf.f
  have e0 : (bts x).getD 0 0 = x % 256 := rfl
  have e1 : (bts x).getD 1 0 = x / 256 % 256 := rfl
  have e2 : (bts x).getD 2 0 = x / 65536 % 256 := rfl
  have e3 : (bts x).getD 3 0 = x / 16777216 % 256 := rfl
  have el : ((bts x).length : Int) = 4 := rfl
  rw [if_pos el, if_pos (by rw [el]; decide), if_pos (by rw [el]; decide), if_pos (by rw [el]; decide), if_pos (by rw [el]; decide), e0, e1, e2, e3]
  have w : ∀ a : Int, 0 ≤ a → a ≤ 255 → IntKind.wrap .u32 a = a := fun a h1 h2 => by rw [wrap_u32]; omega
  rw [w (x % 256) (by omega) (by omega), w (x / 256 % 256) (by omega) (by omega), w (x / 65536 % 256) (by omega) (by omega), w (x / 16777216 % 256) (by omega) (by omega)]
  obtain ⟨a, ha⟩ : ∃ a : Nat, x % 256 = a := ⟨(x % 256).toNat, by omega⟩
  obtain ⟨b, hb⟩ : ∃ b : Nat, x / 256 % 256 = b := ⟨(x / 256 % 256).toNat, by omega⟩
  obtain ⟨c, hc⟩ : ∃ c : Nat, x / 65536 % 256 = c := ⟨(x / 65536 % 256).toNat, by omega⟩
  obtain ⟨d, hd⟩ : ∃ d : Nat, x / 16777216 % 256 = d := ⟨(x / 16777216 % 256).toNat, by omega⟩
  rw [ha, hb, hc, hd]
  have s1 : shl .u32 (b : Int) 8 = ((2 ^ 8 * b : Nat) : Int) := by rw [show (8 : Int) = ((8 : Nat) : Int) from rfl, shl_u32 _ _ (by omega) (by omega)]; omega
  have s2 : shl .u32 (c : Int) 16 = ((2 ^ 16 * c : Nat) : Int) := by rw [show (16 : Int) = ((16 : Nat) : Int) from rfl, shl_u32 _ _ (by omega) (by omega)]; omega
  have s3 : shl .u32 (d : Int) 24 = ((2 ^ 24 * d : Nat) : Int) := by rw [show (24 : Int) = ((24 : Nat) : Int) from rfl, shl_u32 _ _ (by omega) (by omega)]; omega
  rw [s1, s2, s3, or_add a b 8 (by omega) (by omega), or_add (2 ^ 8 * b + a) c 16 (by omega) (by omega), or_add (2 ^ 16 * c + (2 ^ 8 * b + a)) d 24 (by omega) (by omega)]
  congr 2
  omega
structure WinsOk (l : List S40) : Prop where
  len : l.length ≤ 4
  win : ∀ i, i < l.length → windowB (l.getD i z40) = true
  apart : ∀ i, i < l.length → ∀ v ∈ l.take i, apartB v (l.getD i z40) = true
theorem same_self {R : Type} (x : Option R) : sameO x x = x := by simp [sameO]
theorem idx_apart2 (l : List S40) (x : S40) (hl : l.length ≤ 1048576) : Ev (fun k => slices_IndexFunc_118_78.f k l x) (idxOf (fun v => !apartB v x) l 0) := by
  unfold slices_IndexFunc_118_78.f
  refine Ev.idx l z40 _ (fun k i => slices_IndexFunc_118_78.l4 k l x (l.length : Int) i) (Ev.step ?_) (fun i hi hp => Ev.step ?_) (fun i hi hp v hv => Ev.step ?_)
  · simp only [slices_IndexFunc_118_78.l4]; exact Ev.ite_neg (by omega) (Ev.ret _)
  all_goals
    simp only [slices_IndexFunc_118_78.l4, impl_areWindows_1.f, apart_some, Option.bind_some, wrap_succ hi (by omega)]
    refine Ev.ite_pos (lt_in hi) (Ev.ite_pos ge_0 (Ev.ite_pos (lt_in hi) ?_))
  · exact Ev.ite_pos hp (Ev.ret _)
  · exact Ev.ite_neg (fun h => by rw [show (!apartB (rd_T40 l (i : Int)) x) = false from hp] at h; cases h) hv
theorem areWindows_ev (l : List S40) (h : WinsOk l) : Ev (fun k => impl_areWindows.f k l) true := by
  have hl := h.len
  have e0 : (0 : Int).toNat = 0 := rfl
  have key : ∀ (m i : Nat), i + m = l.length → Ev (fun k => impl_areWindows.l8 k l l (l.length : Int) (i : Int)) true := by
    intro m
    induction m with
    | zero =>
      intro i hi
      refine Ev.step ?_
      simp only [impl_areWindows.l8]
      exact Ev.ite_neg (by omega) (Ev.ret _)
    | succ m ih =>
      intro i hi
      have hlt : i < l.length := by omega
      refine Ev.step ?_
      simp only [impl_areWindows.l8, rd_T40, Int.toNat_natCast, e0, List.drop_zero, implWindow, Option.bind_some, wrap_succ hlt (by omega)]
      have hcon : Ev (fun k => slices_ContainsFunc_77_78.f k (l.take i) (l.getD i z40)) false := by
        unfold slices_ContainsFunc_77_78.f
        refine Ev.bind (idx_apart2 (l.take i) _ (by rw [List.length_take]; omega)) (Ev.cast (Ev.ret _) ?_)
        rw [decide_eq_false_iff_not, idxOf_ge _ _ _ (Int.le_refl 0)]
        intro h'
        obtain ⟨v, hv, hv2⟩ := List.any_eq_true.1 h'
        rw [h.apart i hlt v hv] at hv2
        cases hv2
      exact Ev.ite_pos (lt_in hlt) (Ev.ite_pos ge_0 (Ev.ite_pos (lt_in hlt) (Ev.ite_pos (h.win i hlt) (Ev.ite_pos ge_0 (Ev.ite_pos (by omega) (Ev.bind hcon (Ev.ite_neg (by simp) (ih (i + 1) (by omega)))))))))
  unfold impl_areWindows.f
  exact Ev.ite_neg (by omega) (key l.length 0 (by omega))
structure GuestIn (ws : List S40) (g : S29) : Prop where
  regs : g.f0.length = 16
  zero : g.f0.getD 0 0 = 0
  len : g.f2.length = ws.length
  row : ∀ i, i < ws.length → ((g.f2.getD i []).length : Int) = (ws.getD i z40).f1
theorem isGuest_ev (ws : List S40) (h : WinsOk ws) (g : S29) (hg : GuestIn ws g) : Ev (fun k => impl_isGuest.f k ws g) true := by
  have hl := h.len
  have hlen := hg.len
  have key : ∀ (m i : Nat), i + m = ws.length → Ev (fun k => impl_isGuest.l8 k ws (ws.length : Int) (i : Int) g) true := by
    intro m
    induction m with
    | zero =>
      intro i hi
      refine Ev.step ?_
      simp only [impl_isGuest.l8]
      exact Ev.ite_neg (by omega) (Ev.ret _)
    | succ m ih =>
      intro i hi
      have hlt : i < ws.length := by omega
      refine Ev.step ?_
      simp only [impl_isGuest.l8, rd_T40, rd_ListInt, Int.toNat_natCast, wrap_succ hlt (by omega)]
      exact Ev.ite_pos (lt_in hlt) (Ev.ite_pos ge_0 (Ev.ite_pos (lt_in hlt) (Ev.ite_pos ge_0 (Ev.ite_pos (by omega) (Ev.ite_pos (hg.row i hlt) (ih (i + 1) (by omega)))))))
  have hr := hg.regs
  unfold impl_isGuest.f
  simp only [lenZ_eq]
  exact Ev.bind (areWindows_ev ws h) (Ev.ite_pos rfl (Ev.ite_pos (by omega) (Ev.ite_pos (by omega) (Ev.ite_pos hg.zero (Ev.ite_pos (by omega) (key ws.length 0 (by omega)))))))
theorem windowAt_ev (ws : List S40) (a : Int) (hl : ws.length ≤ 1048576) : Ev (fun k => impl_windowAt.f k ws a) (idxOf (fun v => hasB v a) ws 0) := by
  unfold impl_windowAt.f
  exact Ev.bind (idx_window _ _ hl) (Ev.ret _)
theorem at_only (ws : List S40) (h : WinsOk ws) {hm : Nat} (hlt : hm < ws.length) {a : Int} (ha : hasB (ws.getD hm z40) a = true) : idxOf (fun v => hasB v a) ws 0 = (hm : Int) := by
  have range : ∀ i, i < ws.length → 0 ≤ (ws.getD i z40).f0 ∧ (ws.getD i z40).f0 + (ws.getD i z40).f1 ≤ 2048 ∧ 4 ≤ (ws.getD i z40).f1 := fun i hi => by
    have := window_in.1 (h.win i hi)
    omega
  have two : ∀ i j, i < j → j < ws.length → hasB (ws.getD i z40) a = true → hasB (ws.getD j z40) a = true → False := by
    intro i j hij hj h1 h2
    have r1 := range i (by omega)
    have r2 := range j hj
    have hm1 : ws.getD i z40 ∈ ws.take j := by
      rw [List.getD_eq_getElem?_getD, List.getElem?_eq_getElem (by omega : i < ws.length)]
      rw [List.mem_take_iff_getElem]
      exact ⟨i, by omega, rfl⟩
    have h3 := h.apart j hj _ hm1
    simp only [hasB, apartB, decide_eq_true_eq] at h1 h2 h3
    rw [wrap_of (by omega) (by omega)] at h1 h2
    rw [wrap_of (by omega) (by omega), wrap_of (by omega) (by omega)] at h3
    omega
  rcases idxOf_find (fun v => hasB v a) z40 ws 0 with ⟨_, h5⟩ | ⟨j, h5, h6, h7, h8⟩
  · have := List.any_eq_false.1 h5 (ws.getD hm z40) (getD_mem hlt)
    rw [ha] at this
    cases this rfl
  · rcases Nat.lt_trichotomy j hm with h9 | h9 | h9
    · exact (two j hm h9 hlt h7 ha).elim
    · simpa [h9] using h6
    · have := h8 hm h9
      rw [ha] at this
      cases this
theorem cloneBs (l : List Int) (h : l.length ≤ 1048576) : slices_Clone_73.f l = some l := by
  unfold slices_Clone_73.f
  by_cases hl : l.length = 0
  · obtain rfl := List.eq_nil_of_length_eq_zero hl; simp [sameO]
  · rw [if_neg hl]; simp; omega
theorem sameBytes_ev (l : List (List Int)) (hl : l.length ≤ 1048576) : Ev (fun k => laws_sameBytes.f k l l) true := by
  have key : ∀ (m i : Nat), i + m = l.length → Ev (fun k => laws_sameBytes.l8 k l l (i : Int)) true := by
    intro m
    induction m with
    | zero =>
      intro i hi
      refine Ev.step ?_
      simp only [laws_sameBytes.l8]
      exact Ev.ite_neg (by omega) (Ev.ret _)
    | succ m ih =>
      intro i hi
      have hlt : i < l.length := by omega
      refine Ev.step ?_
      simp only [laws_sameBytes.l8, wrap_succ hlt (by omega)]
      exact Ev.ite_pos (lt_in hlt) (Ev.ite_pos ge_0 (Ev.ite_pos (lt_in hlt) (Ev.ite_pos ge_0 (Ev.ite_pos (lt_in hlt) (Ev.ite_pos (by trivial) (ih (i + 1) (by omega)))))))
  unfold laws_sameBytes.f
  exact Ev.ite_pos (by trivial) (key l.length 0 (by omega))
end Go.Proofs.Ytgnhojiogkeepaa.PPo
