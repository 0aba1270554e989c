/- Plain Lean over the printed functions: who reaches whom (both Joined come to the same list). -/
import Derived.Test.YtfmbebgpbgcpeaaC6
set_option linter.unusedVariables false
set_option linter.unusedSimpArgs false
namespace Go.Proofs.Ytfmbebgpbgcpeaa.PDr
open Go Go.RowKit Go.Proofs.Ytfmbebgpbgcpeaa.V Go.Proofs.Ytfmbebgpbgcpeaa.C

/-! ### The closure under the channels, on a row of Bools -/
def atI (A : List Bool) (i : Int) : Bool := A.getD i.toNat false
def fromB (A : List Bool) (r : S39) : Bool := atI A r.f2 && !atI A r.f1
def intoB (A : List Bool) (r : S39) : Bool := decide (r.f0 = 1) && (atI A r.f1 && !atI A r.f2)
def stepA (A : List Bool) (r : S39) : List Bool := (A.set r.f1.toNat (atI A r.f1 || fromB A r)).set r.f2.toNat (atI A r.f2 || intoB A r)
def sweep : List S39 → Bool → List Bool → Bool × List Bool
  | [], m, A => (m, A)
  | r :: l, m, A => sweep l (m || (fromB A r || intoB A r)) (stepA A r)
/-- A channel between two of n. -/
structure ChanIn (n : Nat) (r : S39) : Prop where
  f0 : 0 ≤ r.f1
  f1 : r.f1 < (n : Int)
  t0 : 0 ≤ r.f2
  t1 : r.f2 < (n : Int)
  ne : r.f1 ≠ r.f2
theorem cnt_set : ∀ (A : List Bool) (i : Nat), i < A.length → A.getD i false = false → (A.set i true).count true = A.count true + 1
  | [], i, h, _ => by simp at h
  | b :: A, 0, h, h' => by
    obtain rfl : b = false := h'
    simp
  | b :: A, i + 1, h, h' => by
    have := cnt_set A i (by simpa using h) (by simpa using h')
    rw [List.set_cons_succ, List.count_cons, List.count_cons, this]
    omega
theorem set_same : ∀ (A : List Bool) (i : Nat) (b : Bool), A.getD i false = b → A.set i b = A ∨ A.length ≤ i
  | [], i, b, h => .inr (by simp)
  | x :: A, 0, b, h => by
    obtain rfl : x = b := h
    exact .inl rfl
  | x :: A, i + 1, b, h => by
    rcases set_same A i b (by simpa using h) with h1 | h1
    · exact .inl (by rw [List.set_cons_succ, h1])
    · exact .inr (by simpa using h1)
theorem set_same' {A : List Bool} {i : Nat} {b : Bool} (h : A.getD i false = b) (hi : i < A.length) : A.set i b = A := (set_same A i b h).resolve_right (by omega)
theorem getD_set_ne' {A : List Bool} {i j : Nat} {b : Bool} (h : i ≠ j) : (A.set i b).getD j false = A.getD j false := by
  rw [List.getD_eq_getElem?_getD, List.getD_eq_getElem?_getD, List.getElem?_set_ne h]
theorem getD_set_eq' {A : List Bool} {i : Nat} {b : Bool} (h : i < A.length) : (A.set i b).getD i false = b := by
  rw [List.getD_eq_getElem?_getD, List.getElem?_set_self h]; rfl
theorem step_len (A : List Bool) (r : S39) : (stepA A r).length = A.length := by simp [stepA]
theorem step_none {A : List Bool} {r : S39} (h : ChanIn A.length r) (hf : fromB A r = false) (ht : intoB A r = false) : stepA A r = A := by
  have h1 := h.f0; have h2 := h.f1; have h3 := h.t0; have h4 := h.t1
  unfold stepA
  rw [hf, ht, Bool.or_false, Bool.or_false, set_same' (A := A) (b := atI A r.f1) rfl (by omega), set_same' (A := A) (b := atI A r.f2) rfl (by omega)]
theorem step_some {A : List Bool} {r : S39} (h : ChanIn A.length r) (hc : (fromB A r || intoB A r) = true) : (stepA A r).count true = A.count true + 1 := by
  have h1 := h.f0; have h2 := h.f1; have h3 := h.t0; have h4 := h.t1
  have hne : r.f1.toNat ≠ r.f2.toNat := fun e => h.ne (by omega)
  unfold stepA
  unfold fromB intoB at hc ⊢
  cases ha : atI A r.f1
  · cases hb : atI A r.f2
    · rw [ha, hb] at hc; simp at hc
    · simp only [Bool.not_false, Bool.and_true, Bool.false_or, Bool.true_or]
      rw [set_same' (i := r.f2.toNat) (b := true) (by rw [getD_set_ne' hne]; exact hb) (by simp; omega)]
      exact cnt_set A _ (by omega) ha
  · cases hb : atI A r.f2
    · rw [ha, hb] at hc
      simp only [Bool.not_true, Bool.and_false, Bool.false_or, Bool.not_false, Bool.and_true] at hc
      simp only [Bool.not_true, Bool.and_false, Bool.or_false, Bool.not_false, Bool.and_true, hc, Bool.false_or]
      rw [set_same' (i := r.f1.toNat) (b := true) ha (by omega)]
      exact cnt_set A _ (by omega) hb
    · rw [ha, hb] at hc; simp at hc
theorem sweep_fact : ∀ (l : List S39) (m : Bool) (A : List Bool), (∀ r ∈ l, ChanIn A.length r) → (sweep l m A).2.length = A.length ∧ A.count true ≤ (sweep l m A).2.count true ∧ ((sweep l m A).1 = true → m = true ∨ A.count true < (sweep l m A).2.count true) ∧ ((sweep l m A).1 = false → m = false ∧ (sweep l m A).2 = A)
  | [], m, A, _ => ⟨rfl, Nat.le_refl _, fun h => .inl h, fun h => ⟨h, rfl⟩⟩
  | r :: l, m, A, h => by
    have hr := h r (by simp)
    obtain ⟨i1, i2, i3, i4⟩ := sweep_fact l (m || (fromB A r || intoB A r)) (stepA A r) (fun x hx => by rw [step_len]; exact h x (by simp [hx]))
    rw [step_len] at i1
    rw [sweep]
    cases hc : (fromB A r || intoB A r)
    · rw [Bool.or_eq_false_iff] at hc
      have hn := step_none hr hc.1 hc.2
      rw [hc.1, hc.2, hn] at i1 i2 i3 i4
      rw [hn]
      simp only [Bool.or_false] at *
      exact ⟨i1, i2, i3, i4⟩
    · have hn := step_some hr hc
      rw [hc] at i1 i2 i3 i4
      exact ⟨i1, by omega, fun _ => .inr (by omega), fun he => by have := (i4 he).1; simp at this⟩
def sweepF (C : List S39) (A : List Bool) : List Bool := (sweep C false A).2
def iterF (C : List S39) : Nat → List Bool → List Bool
  | 0, A => A
  | n + 1, A => iterF C n (sweepF C A)
theorem iter_fix {C : List S39} {A : List Bool} (h : sweepF C A = A) : ∀ n, iterF C n A = A
  | 0 => rfl
  | n + 1 => by rw [iterF, h, iter_fix h n]
theorem cnt_le (A : List Bool) : A.count true ≤ A.length := List.count_le_length
theorem sweep_or {C : List S39} {A : List Bool} (h : ∀ r ∈ C, ChanIn A.length r) : (sweepF C A).length = A.length ∧ (sweepF C A = A ∨ A.count true < (sweepF C A).count true) := by
  obtain ⟨i1, i2, i3, i4⟩ := sweep_fact C false A h
  refine ⟨i1, ?_⟩
  cases hc : (sweep C false A).1
  · exact .inl (i4 hc).2
  · exact .inr ((i3 hc).resolve_left (by simp))
/-- What is marked, from i on. -/
def bitsFrom (A : List Bool) : Nat → Nat → List Int
  | 0, _ => []
  | m + 1, i => if A.getD i false = true then (i : Int) :: bitsFrom A m (i + 1) else bitsFrom A m (i + 1)
def bits (A : List Bool) : List Int := bitsFrom A A.length 0
theorem bitsFrom_len (A : List Bool) : ∀ m i, (bitsFrom A m i).length ≤ m
  | 0, i => by simp [bitsFrom]
  | m + 1, i => by
    have := bitsFrom_len A m (i + 1)
    rw [bitsFrom]
    split
    · simpa using this
    · omega
theorem mem_bitsFrom (A : List Bool) (x : Int) : ∀ m i, x ∈ bitsFrom A m i ↔ ∃ j : Nat, x = (j : Int) ∧ i ≤ j ∧ j < i + m ∧ A.getD j false = true
  | 0, i => by
    simp only [bitsFrom, List.not_mem_nil, false_iff]
    rintro ⟨j, _, h1, h2, _⟩
    omega
  | m + 1, i => by
    have ih := mem_bitsFrom A x m (i + 1)
    rw [bitsFrom]
    have key : (∃ j : Nat, x = (j : Int) ∧ i ≤ j ∧ j < i + (m + 1) ∧ A.getD j false = true) ↔ (x = (i : Int) ∧ A.getD i false = true) ∨ ∃ j : Nat, x = (j : Int) ∧ i + 1 ≤ j ∧ j < i + 1 + m ∧ A.getD j false = true := by
      constructor
      · rintro ⟨j, h1, h2, h3, h4⟩
        by_cases e : i = j
        · subst e; exact .inl ⟨h1, h4⟩
        · exact .inr ⟨j, h1, by omega, by omega, h4⟩
      · rintro (⟨h1, h2⟩ | ⟨j, h1, h2, h3, h4⟩)
        · exact ⟨i, h1, by omega, by omega, h2⟩
        · exact ⟨j, h1, by omega, by omega, h4⟩
    rw [key, ← ih]
    split
    · rename_i hA
      constructor
      · intro h
        rcases List.mem_cons.1 h with h | h
        · exact .inl ⟨h, hA⟩
        · exact .inr h
      · rintro (⟨h, _⟩ | h)
        · exact List.mem_cons.2 (.inl h)
        · exact List.mem_cons.2 (.inr h)
    · rename_i hA
      exact ⟨.inr, fun h => h.resolve_left fun q => hA q.2⟩

/-! ### The program's -/
theorem bits_l34 (A : List Bool) (hA : A.length ≤ 1000) : Ev (fun k => impl_joined.l34 k (A.length : Int) 0 [] A) (bits A) := by
  have := Ev.down A.length (fun k i s => impl_joined.l34 k (A.length : Int) i s A) (fun i s => s.length ≤ i) (fun i s => s ++ bitsFrom A (A.length - i) i) (fun s hs => Ev.step (by
    simp only [impl_joined.l34]
    exact Ev.ite_neg (by omega) (Ev.cast (Ev.ret _) (by rw [Nat.sub_self, bitsFrom, List.append_nil])))) (fun i hi s hs ih => Ev.step (by
    have hb : rd_bool A (i : Int) = A.getD i false := rfl
    have e : A.length - i = (A.length - (i + 1)) + 1 := by omega
    simp only [impl_joined.l34, hb, wrap_succ hi (by omega)]
    refine Ev.ite_pos (lt_in hi) (Ev.ite_pos ge_0 (Ev.ite_pos (lt_in hi) ?_))
    rw [e, bitsFrom]
    by_cases c : A.getD i false = true
    · exact Ev.ite_pos c (Ev.ite_pos (by simp; omega) (Ev.cast (ih _ (by simp; omega)) (by rw [if_pos c]; simp)))
    · exact Ev.ite_neg c (Ev.cast (ih _ (by omega)) (by rw [if_neg c])))) A.length 0 (by omega) [] (by simp)
  simpa [bits] using this
theorem joined_step {t : S33} (C : List S39) (hC : C.length ≤ 8) (i : Nat) (hi : i < C.length) (A : List Bool) (hr : ChanIn A.length (C.getD i z39)) (m : Bool) (v : List Int)
    (hv : Ev (fun k => impl_joined.l14 k (m || (fromB A (C.getD i z39) || intoB A (C.getD i z39))) C (C.length : Int) ((i + 1 : Nat) : Int) t (stepA A (C.getD i z39))) v) : Ev (fun k => impl_joined.l14 k m C (C.length : Int) (i : Int) t A) v := by
  have hrd : rd_T39 C (i : Int) = C.getD i z39 := rfl
  have h1 := hr.f0; have h2 := hr.f1; have h3 := hr.t0; have h4 := hr.t1
  generalize C.getD i z39 = r at *
  have hne : r.f1.toNat ≠ r.f2.toNat := fun e => hr.ne (by omega)
  have mid : Ev (fun k => impl_joined.l23 k m (fromB A r) (intoB A r) C (C.length : Int) (i : Int) t A r) v := by
    have l27 : Ev (fun k => impl_joined.l27 k m (fromB A r) (intoB A r) C (C.length : Int) (i : Int) t (stepA A r)) v := by
      refine Ev.step ?_
      simp only [impl_joined.l27, wrap_succ hi (by omega)]
      cases m
      · cases hf : fromB A r
        · rw [hf] at hv
          exact hv
        · rw [hf] at hv
          exact hv
      · exact hv
    refine Ev.step ?_
    have e2 : ∀ b, rd_bool (A.set r.f1.toNat b) r.f2 = atI A r.f2 := fun b => getD_set_ne' hne
    have e1 : rd_bool A r.f1 = atI A r.f1 := rfl
    have hl : ∀ b, ((A.set r.f1.toNat b).length : Int) = (A.length : Int) := fun b => by rw [List.length_set]
    simp only [impl_joined.l23, e1, e2, hl, h1, h2, h3, h4, if_true]
    unfold stepA at l27
    cases ha : atI A r.f1 <;> cases hb : atI A r.f2 <;> rw [ha, hb] at l27 <;> simp only [Bool.false_or, Bool.true_or] at l27 <;> exact l27
  refine Ev.step ?_
  have e1 : rd_bool A r.f1 = atI A r.f1 := rfl
  have e2 : rd_bool A r.f2 = atI A r.f2 := rfl
  simp only [impl_joined.l14, hrd, e1, e2, h1, h2, h3, h4, if_true]
  unfold fromB intoB at mid
  refine Ev.ite_pos (lt_in hi) (Ev.ite_pos ge_0 (Ev.ite_pos (lt_in hi) ?_))
  cases ha : atI A r.f1 <;> cases hb : atI A r.f2 <;> rw [ha, hb] at mid <;> by_cases hq : r.f0 = 1 <;> simp only [hq, if_true, if_false, decide_true, decide_false, Bool.not_true, Bool.not_false, Bool.and_true, Bool.and_false, Bool.true_and, Bool.false_and, Bool.false_eq_true] at mid ⊢ <;> exact mid
theorem joined_sweep {t : S33} (C : List S39) (hC : C.length ≤ 8) (v : List Int) : ∀ (n i : Nat) (m : Bool) (A : List Bool), i + n = C.length → (∀ r ∈ C, ChanIn A.length r) → Ev (fun k => impl_joined.l8 k (sweep (C.drop i) m A).1 t (sweep (C.drop i) m A).2) v → Ev (fun k => impl_joined.l14 k m C (C.length : Int) (i : Int) t A) v
  | 0, i, m, A, hi, h, hv => by
    rw [List.drop_of_length_le (by omega)] at hv
    refine Ev.step ?_
    simp only [impl_joined.l14]
    exact Ev.ite_neg (by omega) hv
  | n + 1, i, m, A, hi, h, hv => by
    have hlt : i < C.length := by omega
    rw [Ev.drop_getD C z39 i hlt, sweep] at hv
    exact joined_step C hC i hlt A (h _ (getD_mem hlt)) m v (joined_sweep C hC v n (i + 1) _ _ (by omega) (by rw [step_len]; exact h) hv)
theorem joined_l8 {t : S33} (hC : t.f9.length ≤ 8) : ∀ (d : Nat) (A : List Bool), A.length ≤ 1000 → (∀ r ∈ t.f9, ChanIn A.length r) → A.length - A.count true ≤ d → Ev (fun k => impl_joined.l8 k true t A) (bits (iterF t.f9 d A)) := by
  have stop : ∀ A : List Bool, A.length ≤ 1000 → Ev (fun k => impl_joined.l8 k false t A) (bits A) := fun A hA => by
    refine Ev.step ?_
    simp only [impl_joined.l8]
    exact Ev.ite_neg (by simp) (bits_l34 A hA)
  have one : ∀ (A : List Bool), (∀ r ∈ t.f9, ChanIn A.length r) → ∀ v, Ev (fun k => impl_joined.l8 k (sweep t.f9 false A).1 t (sweep t.f9 false A).2) v → Ev (fun k => impl_joined.l8 k true t A) v := fun A h v hv => by
    refine Ev.step ?_
    simp only [impl_joined.l8, if_true]
    exact joined_sweep t.f9 hC v t.f9.length 0 false A (by omega) h hv
  intro d
  induction d with
  | zero =>
    intro A hA h hd
    refine one A h _ ?_
    obtain ⟨i1, i2, i3, i4⟩ := sweep_fact t.f9 false A h
    have hle := cnt_le (sweep t.f9 false A).2
    have hc : (sweep t.f9 false A).1 = false := by
      cases hc : (sweep t.f9 false A).1
      · rfl
      · have := (i3 hc).resolve_left (by simp)
        omega
    rw [hc, (i4 hc).2]
    exact stop A hA
  | succ d ih =>
    intro A hA h hd
    refine one A h _ ?_
    obtain ⟨i1, i2, i3, i4⟩ := sweep_fact t.f9 false A h
    have hle := cnt_le (sweep t.f9 false A).2
    cases hc : (sweep t.f9 false A).1
    · have hfix : sweepF t.f9 A = A := (i4 hc).2
      rw [(i4 hc).2, iter_fix hfix]
      exact stop A hA
    · have hlt := (i3 hc).resolve_left (by simp)
      exact ih (sweep t.f9 false A).2 (by omega) (by rw [i1]; exact h) (by omega)
def start (n : Nat) (p : Int) : List Bool := (List.replicate n false).set p.toNat true
theorem start_len (n : Nat) (p : Int) : (start n p).length = n := by simp [start]
/-- Those that reach p, in order. -/
def closure (t : S33) (p : Int) : List Int := bits (iterF t.f9 t.f7.length (start t.f7.length p))
theorem sound_chans {t : S33} (h : soundB t = true) : t.f9.length ≤ 8 ∧ t.f7.length ≤ 6 ∧ 1 ≤ t.f7.length ∧ ∀ r ∈ t.f9, ChanIn t.f7.length r := by
  simp only [soundB, specPartsB, chansB, Bool.and_eq_true, in_iff] at h
  obtain ⟨_, ⟨hn, _⟩, ⟨_, h9, hch, _⟩, _⟩ := h
  have h9' : ¬ ((t.f9.length : Int) > 8) := by simpa using h9
  refine ⟨by omega, by omega, by omega, fun r hr => ?_⟩
  rw [any_not_all'] at hch
  have h1 := List.all_eq_true.1 hch r hr
  simp only [chanOut, Bool.not_or, Bool.not_not, Bool.and_eq_true, Bool.not_eq_true', decide_eq_false_iff_not] at h1
  have h2 := h1.1
  simp only [chanB, Bool.and_eq_true, in_iff, Bool.not_eq_true', decide_eq_false_iff_not] at h2
  exact ⟨h2.1.1, by omega, h2.2.1.1, by omega, h2.2.2.1⟩
theorem implJoined {t : S33} (h : soundB t = true) (p : Int) (hp : 0 ≤ p ∧ p < (t.f7.length : Int)) : Ev (fun k => impl_joined.f k t p) (closure t p) := by
  obtain ⟨h1, h2, h3, h4⟩ := sound_chans h
  unfold impl_joined.f
  refine Ev.ite_pos (by omega) (Ev.ite_pos (by omega) (Ev.ite_pos (by omega) (Ev.ite_pos hp.1 (Ev.ite_pos (by simp; omega) ?_))))
  have hl := start_len t.f7.length p
  have := joined_l8 h1 t.f7.length (start t.f7.length p) (by omega) (by rw [hl]; exact h4) (by omega)
  simpa [start, closure] using this
end Go.Proofs.Ytfmbebgpbgcpeaa.PDr
