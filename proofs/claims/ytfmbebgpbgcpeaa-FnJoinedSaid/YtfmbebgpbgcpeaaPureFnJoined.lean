/- Plain Lean over the printed functions: who reaches whom is a closure, so the law's function answers true. -/
import Derived.Test.YtfmbebgpbgcpeaaD3
import Derived.Test.YtfmbebgpbgcpeaaC8
set_option linter.unusedVariables false
set_option linter.unusedSimpArgs false
set_option linter.unusedSectionVars false
namespace Go.Proofs.Ytfmbebgpbgcpeaa.PDr
open Go Go.RowKit Go.Proofs.Ytfmbebgpbgcpeaa.V Go.Proofs.Ytfmbebgpbgcpeaa.C

/-! ### The closure is the least -/
def Le (A B : List Bool) : Prop := ∀ i, A.getD i false = true → B.getD i false = true
def Closed (C : List S39) (B : List Bool) : Prop := ∀ r ∈ C, (atI B r.f2 = true → atI B r.f1 = true) ∧ (r.f0 = 1 → atI B r.f1 = true → atI B r.f2 = true)
theorem set_true {A : List Bool} {i j : Nat} {b : Bool} (h : (A.set i b).getD j false = true) : (i = j ∧ b = true) ∨ A.getD j false = true := by
  rw [List.getD_eq_getElem?_getD] at h
  by_cases e : i = j
  · subst e
    by_cases hl : i < A.length
    · rw [List.getElem?_set_self hl] at h
      exact .inl ⟨rfl, h⟩
    · rw [List.getElem?_eq_none (by simpa using hl)] at h
      cases h
  · rw [List.getElem?_set_ne e] at h
    exact .inr (by rw [List.getD_eq_getElem?_getD]; exact h)
theorem true_set {A : List Bool} {i j : Nat} {b : Bool} (h : A.getD j false = true) (hb : i = j → b = true) : (A.set i b).getD j false = true := by
  rw [List.getD_eq_getElem?_getD] at h ⊢
  by_cases e : i = j
  · subst e
    have hl : i < A.length := by
      rcases Nat.lt_or_ge i A.length with hl | hl
      · exact hl
      · rw [List.getElem?_eq_none hl] at h; cases h
    rw [List.getElem?_set_self hl]
    exact hb rfl
  · rw [List.getElem?_set_ne e]; exact h
theorem step_le {A B : List Bool} (h : Le A B) {r : S39} (hr : (atI B r.f2 = true → atI B r.f1 = true) ∧ (r.f0 = 1 → atI B r.f1 = true → atI B r.f2 = true)) : Le (stepA A r) B := by
  intro i hi
  unfold stepA at hi
  rcases set_true hi with ⟨rfl, hb⟩ | hi
  · rw [Bool.or_eq_true] at hb
    rcases hb with hb | hb
    · exact h _ hb
    · simp only [intoB, Bool.and_eq_true, decide_eq_true_eq] at hb
      exact hr.2 hb.1 (h _ hb.2.1)
  · rcases set_true hi with ⟨rfl, hb⟩ | hi
    · rw [Bool.or_eq_true] at hb
      rcases hb with hb | hb
      · exact h _ hb
      · simp only [fromB, Bool.and_eq_true] at hb
        exact hr.1 (h _ hb.1)
    · exact h i hi
theorem le_step (A : List Bool) (r : S39) : Le A (stepA A r) := by
  intro i hi
  unfold stepA
  refine true_set (true_set hi fun e => ?_) fun e => ?_
  · subst e; rw [show atI A r.f1 = true from hi]; rfl
  · subst e; rw [show atI A r.f2 = true from hi]; rfl
theorem Le.trans {A B D : List Bool} (h : Le A B) (k : Le B D) : Le A D := fun i hi => k i (h i hi)
theorem sweep_le {B : List Bool} : ∀ (l : List S39) (m : Bool) (A : List Bool), Le A B → Closed l B → Le (sweep l m A).2 B
  | [], m, A, h, _ => h
  | r :: l, m, A, h, hc => sweep_le l _ _ (step_le h (hc r (by simp))) fun x hx => hc x (by simp [hx])
theorem le_sweep : ∀ (l : List S39) (m : Bool) (A : List Bool), Le A (sweep l m A).2
  | [], m, A => fun _ h => h
  | r :: l, m, A => (le_step A r).trans (le_sweep l _ _)
theorem iter_le {C : List S39} {B : List Bool} (hc : Closed C B) : ∀ (n : Nat) (A : List Bool), Le A B → Le (iterF C n A) B
  | 0, A, h => h
  | n + 1, A, h => iter_le hc n _ (sweep_le C false A h hc)
theorem le_iter {C : List S39} : ∀ (n : Nat) (A : List Bool), Le A (iterF C n A)
  | 0, A => fun _ h => h
  | n + 1, A => (le_sweep C false A).trans (le_iter n _)
theorem iter_len' {C : List S39} : ∀ (n : Nat) (A : List Bool), (∀ r ∈ C, ChanIn A.length r) → (iterF C n A).length = A.length
  | 0, A, _ => rfl
  | n + 1, A, h => by
    have := (sweep_or h).1
    rw [iterF, iter_len' n _ (by rw [this]; exact h), this]
theorem iter_done {C : List S39} : ∀ (n : Nat) (A : List Bool), (∀ r ∈ C, ChanIn A.length r) → A.length - A.count true ≤ n → sweepF C (iterF C n A) = iterF C n A
  | 0, A, h, hn => by
    obtain ⟨h1, h2⟩ := sweep_or h
    rcases h2 with h2 | h2
    · exact h2
    · have := cnt_le (sweepF C A); have := cnt_le A; omega
  | n + 1, A, h, hn => by
    obtain ⟨h1, h2⟩ := sweep_or h
    rcases h2 with h2 | h2
    · rw [iter_fix h2]; exact h2
    · rw [iterF]
      exact iter_done n _ (by rw [h1]; exact h) (by rw [h1]; omega)
theorem sweep_still : ∀ (l : List S39) (m : Bool) (A : List Bool), (∀ r ∈ l, ChanIn A.length r) → (sweep l m A).1 = false → ∀ r ∈ l, fromB A r = false ∧ intoB A r = false
  | [], _, _, _, _, r, hr => by cases hr
  | x :: l, m, A, h, hf, r, hr => by
    have hx := h x (by simp)
    rw [sweep] at hf
    have h2 := ((sweep_fact l _ (stepA A x) (fun y hy => by rw [step_len]; exact h y (by simp [hy]))).2.2.2 hf).1
    rw [Bool.or_eq_false_iff, Bool.or_eq_false_iff] at h2
    rcases List.mem_cons.1 hr with rfl | hr
    · exact h2.2
    · rw [step_none hx h2.2.1 h2.2.2] at hf
      exact sweep_still l _ A (fun y hy => h y (by simp [hy])) hf r hr
theorem fix_closed {C : List S39} {A : List Bool} (h : ∀ r ∈ C, ChanIn A.length r) (hf : sweepF C A = A) : Closed C A := by
  intro r hr
  obtain ⟨i1, i2, i3, i4⟩ := sweep_fact C false A h
  have hs : (sweep C false A).1 = false := by
    cases hc : (sweep C false A).1
    · rfl
    · have := (i3 hc).resolve_left (by simp)
      rw [show (sweep C false A).2 = A from hf] at this
      omega
  obtain ⟨h1, h2⟩ := sweep_still C false A h hs r hr
  unfold fromB at h1
  unfold intoB at h2
  constructor
  · intro q
    rw [q] at h1
    simpa using h1
  · intro q1 q2
    rw [q1, q2] at h2
    simpa using h2

section
variable {t : S33} (hb : soundB t = true)
include hb
/-- Whoever reaches p, as a row of Bools. -/
def clo (t : S33) (p : Int) : List Bool := iterF t.f9 t.f7.length (start t.f7.length p)
theorem clo_len (p : Int) : (clo t p).length = t.f7.length := by
  obtain ⟨h1, h2, h3, h4⟩ := sound_chans hb
  have hl := start_len t.f7.length p
  unfold clo
  rw [iter_len' _ _ (by rw [hl]; exact h4), hl]
theorem clo_closed (p : Int) : Closed t.f9 (clo t p) := by
  obtain ⟨h1, h2, h3, h4⟩ := sound_chans hb
  have hl := start_len t.f7.length p
  refine fix_closed (by rw [clo_len hb]; exact h4) ?_
  exact iter_done _ _ (by rw [hl]; exact h4) (by omega)
theorem clo_self {p : Int} (hp : 0 ≤ p ∧ p < (t.f7.length : Int)) : atI (clo t p) p = true := by
  refine le_iter _ _ _ ?_
  unfold start
  rw [List.getD_eq_getElem?_getD, List.getElem?_set_self (by simp; omega)]
  rfl
theorem clo_least {p : Int} {B : List Bool} (hc : Closed t.f9 B) (hB : atI B p = true) : Le (clo t p) B := by
  refine iter_le hc _ _ fun i hi => ?_
  unfold start at hi
  rcases set_true hi with ⟨rfl, _⟩ | hi
  · exact hB
  · rw [List.getD_eq_getElem?_getD] at hi
    by_cases hl : i < t.f7.length
    · rw [List.getElem?_replicate] at hi
      simp [hl] at hi
    · rw [List.getElem?_eq_none (by simp; omega)] at hi
      cases hi
theorem mem_closure (p x : Int) : x ∈ closure t p ↔ 0 ≤ x ∧ x < (t.f7.length : Int) ∧ atI (clo t p) x = true := by
  show x ∈ bitsFrom (clo t p) (clo t p).length 0 ↔ _
  rw [mem_bitsFrom, clo_len hb]
  constructor
  · rintro ⟨j, rfl, h1, h2, h3⟩
    exact ⟨by omega, by omega, by unfold atI; rw [Int.toNat_natCast]; exact h3⟩
  · rintro ⟨h1, h2, h3⟩
    exact ⟨x.toNat, by omega, by omega, by omega, h3⟩
theorem closure_sub {p x y : Int} (hx : x ∈ closure t p) (hy : y ∈ closure t x) : y ∈ closure t p := by
  rw [mem_closure hb] at *
  exact ⟨hy.1, hy.2.1, clo_least hb (clo_closed hb p) hx.2.2 _ hy.2.2⟩
theorem closure_from {r : S39} (hr : r ∈ t.f9) : r.f1 ∈ closure t r.f2 := by
  obtain ⟨h1, h2, h3, h4⟩ := sound_chans hb
  have hc := h4 r hr
  rw [mem_closure hb]
  exact ⟨hc.f0, hc.f1, (clo_closed hb r.f2 r hr).1 (clo_self hb ⟨hc.t0, hc.t1⟩)⟩
theorem closure_both {r : S39} (hr : r ∈ t.f9) (hk : r.f0 = 1) : closure t r.f1 = closure t r.f2 := by
  obtain ⟨h1, h2, h3, h4⟩ := sound_chans hb
  have hc := h4 r hr
  have l1 := clo_least hb (clo_closed hb r.f2) ((clo_closed hb r.f2 r hr).1 (clo_self hb ⟨hc.t0, hc.t1⟩))
  have l2 := clo_least hb (clo_closed hb r.f1) ((clo_closed hb r.f1 r hr).2 hk (clo_self hb ⟨hc.f0, hc.f1⟩))
  have : clo t r.f1 = clo t r.f2 := by
    apply List.ext_getElem?
    intro i
    by_cases hi : i < t.f7.length
    · have e1 := List.getElem?_eq_getElem (l := clo t r.f1) (i := i) (by rw [clo_len hb]; exact hi)
      have e2 := List.getElem?_eq_getElem (l := clo t r.f2) (i := i) (by rw [clo_len hb]; exact hi)
      have k1 := l1 i
      have k2 := l2 i
      rw [List.getD_eq_getElem?_getD, List.getD_eq_getElem?_getD, e1, e2] at k1
      rw [List.getD_eq_getElem?_getD, List.getD_eq_getElem?_getD, e1, e2] at k2
      rw [e1, e2]
      simp only [Option.getD_some] at k1 k2
      congr 1
      revert k1 k2
      generalize (clo t r.f1)[i]'(by rw [clo_len hb]; exact hi) = a
      generalize (clo t r.f2)[i]'(by rw [clo_len hb]; exact hi) = b
      cases a <;> cases b <;> simp
    · rw [List.getElem?_eq_none (by rw [clo_len hb]; omega), List.getElem?_eq_none (by rw [clo_len hb]; omega)]
  show bits (clo t r.f1) = bits (clo t r.f2)
  rw [this]
end
theorem bitsFrom_lt (A : List Bool) : ∀ m i, (bitsFrom A m i).Pairwise (· < ·)
  | 0, _ => List.Pairwise.nil
  | m + 1, i => by
    rw [bitsFrom]
    split
    · refine List.pairwise_cons.2 ⟨fun x hx => ?_, bitsFrom_lt A m (i + 1)⟩
      obtain ⟨j, rfl, h1, _⟩ := (mem_bitsFrom A x m (i + 1)).1 hx
      omega
    · exact bitsFrom_lt A m (i + 1)

theorem pair_getD {l : List Int} (h : l.Pairwise (· < ·)) {i j : Nat} (hij : i < j) (hj : j < l.length) : l.getD i 0 < l.getD j 0 := by
  have := List.pairwise_iff_getElem.1 h i j (by omega) hj hij
  rw [List.getD_eq_getElem?_getD, List.getD_eq_getElem?_getD, List.getElem?_eq_getElem (by omega : i < l.length), List.getElem?_eq_getElem hj]
  exact this

/-! ### The law's loops -/
theorem lhas_ev (s : List Int) (hs : s.length ≤ 1048576) (x : Int) (hx : x ∈ s) : Ev (fun k => laws_has.f k s x) true := by
  unfold laws_has.f
  have := Ev.list s 0 (fun l (_ : Unit) => l.any fun y => decide (y = x)) (fun _ _ => True) (fun k i _ => laws_has.l4 k s x i) (fun _ _ => Ev.step (by
    simp only [laws_has.l4]; exact Ev.ite_neg (by omega) (Ev.ret _))) (fun i hi _ _ ih => Ev.step (by
    have hr : rd s (i : Int) = s.getD i 0 := rfl
    simp only [laws_has.l4, hr, wrap_succ hi (by omega), List.any_cons]
    refine Ev.ite_pos (lt_in hi) (Ev.ite_pos ge_0 (Ev.ite_pos (lt_in hi) ?_))
    by_cases c : s.getD i 0 = x
    · exact Ev.ite_pos c (Ev.cast (Ev.ret _) (by rw [decide_eq_true c, Bool.true_or]))
    · exact Ev.ite_neg c (Ev.cast (ih () trivial) (by rw [decide_eq_false c, Bool.false_or])))) s.length 0 (by omega) () trivial
  refine Ev.cast this ?_
  rw [List.drop_zero, List.any_eq_true]
  exact ⟨x, hx, by simp⟩
theorem lsame_ev (s : List Int) (hs : s.length ≤ 1048576) : Ev (fun k => laws_sameInts.f k s s) true := by
  unfold laws_sameInts.f
  refine Ev.ite_pos rfl ?_
  have := Ev.list s 0 (fun l (_ : Unit) => true) (fun _ _ => True) (fun k i _ => laws_sameInts.l8 k s s i) (fun _ _ => Ev.step (by
    simp only [laws_sameInts.l8]; exact Ev.ite_neg (by omega) (Ev.ret _))) (fun i hi _ _ ih => Ev.step (by
    simp only [laws_sameInts.l8, wrap_succ hi (by omega)]
    exact Ev.ite_pos (lt_in hi) (Ev.ite_pos ge_0 (Ev.ite_pos (lt_in hi) (Ev.ite_pos ge_0 (Ev.ite_pos (lt_in hi) (Ev.ite_pos trivial (ih () trivial)))))))) s.length 0 (by omega) () trivial
  exact this
theorem contains_ev (s : List Int) (hs : s.length ≤ 1048576) (x : Int) : Ev (fun k => slices_Contains_63.f k s x) (decide (x ∈ s)) := by
  unfold slices_Contains_63.f slices_Index_123.f
  refine Ev.bind (a := idxOf (fun y => decide (x = y)) s 0) ?_ (Ev.cast (Ev.ret _) ?_)
  · refine Ev.idx s 0 _ (fun k i => slices_Index_123.l4 k s x (s.length : Int) i) (Ev.step ?_) (fun i hi hp => Ev.step ?_) (fun i hi hp v hv => Ev.step ?_)
    · simp only [slices_Index_123.l4]; exact Ev.ite_neg (by omega) (Ev.ret _)
    all_goals
      have hr : rd s (i : Int) = s.getD i 0 := rfl
      simp only [slices_Index_123.l4, hr, wrap_succ hi (by omega)]
      refine Ev.ite_pos (lt_in hi) (Ev.ite_pos ge_0 (Ev.ite_pos (lt_in hi) ?_))
    · exact Ev.ite_pos (of_decide_eq_true hp) (Ev.ret _)
    · exact Ev.ite_neg (of_decide_eq_false hp) hv
  · rw [decide_eq_decide, idxOf_ge _ _ _ (Int.le_refl 0), List.any_eq_true]
    constructor
    · rintro ⟨y, hy, e⟩
      rw [decide_eq_true_eq] at e
      rw [e]; exact hy
    · intro h
      exact ⟨x, h, by simp⟩
section
variable {t : S33} (hb : soundB t = true) (hsm : Small t) (hnm : ∀ x ∈ t.f7, x.f0.size ≤ 9223372036854775807)
include hb hsm hnm
theorem closure_len' (p : Int) : (closure t p).length ≤ 6 := by
  obtain ⟨h1, h2, h3, h4⟩ := sound_chans hb
  have := bitsFrom_len (clo t p) (clo t p).length 0
  have h5 := clo_len hb p
  show (bitsFrom (clo t p) (clo t p).length 0).length ≤ 6
  omega
theorem joined_ev {p : Int} (hp : 0 ≤ p ∧ p < (t.f7.length : Int)) : Ev (fun k => impl_Joined.f k t p) (closure t p) := by
  obtain ⟨h1, h2, h3, h4⟩ := sound_chans hb
  unfold impl_Joined.f
  rw [wrap_of (a := (t.f7.length : Int) - 1) (by omega) (by omega)]
  simp only [within_some, (in_iff (a := p)).2 (show 0 ≤ p ∧ p ≤ (t.f7.length : Int) - 1 by omega), Option.bind_some, if_true]
  exact Ev.bind (Ev.cast (implSound t hsm hnm) hb) (Ev.ite_pos rfl (Ev.bind (implJoined hb p hp) (Ev.ret _)))
theorem infl_ev {p q : Int} (hp : 0 ≤ p ∧ p < (t.f7.length : Int)) (hq : q ∈ closure t p) : Ev (fun k => impl_Influence.f k t q p) true := by
  obtain ⟨h1, h2, h3, h4⟩ := sound_chans hb
  have hl := closure_len' hb hsm hnm p
  unfold impl_Influence.f
  rw [wrap_of (a := (t.f7.length : Int) - 1) (by omega) (by omega)]
  simp only [within_some, (in_iff (a := p)).2 (show 0 ≤ p ∧ p ≤ (t.f7.length : Int) - 1 by omega), Option.bind_some, if_true]
  exact Ev.bind (Ev.cast (implSound t hsm hnm) hb) (Ev.ite_pos rfl (Ev.bind (implJoined hb p hp) (Ev.bind (Ev.cast (contains_ev _ (by omega) q) (decide_eq_true hq)) (Ev.ret _))))

theorem l34_ev {p x : Int} (i : Int) (hx : x ∈ closure t p) (v : Bool) (hv : Ev (fun k => laws_FnJoined.l22 k p (wrap64 (i + 1)) t (closure t p)) v) : ∀ (n j : Nat), j + n = (closure t x).length → Ev (fun k => laws_FnJoined.l34 k p i (j : Int) t (closure t p) (closure t x)) v
  | 0, j, hj => by
    refine Ev.step ?_
    simp only [laws_FnJoined.l34]
    exact Ev.ite_neg (by omega) hv
  | n + 1, j, hj => by
    have hl := closure_len' hb hsm hnm x
    have hl2 := closure_len' hb hsm hnm p
    have hlt : j < (closure t x).length := by omega
    have hm := getD_mem (z := (0 : Int)) hlt
    refine Ev.step ?_
    simp only [laws_FnJoined.l34, wrap_succ hlt (by omega)]
    exact Ev.ite_pos (lt_in hlt) (Ev.ite_pos ge_0 (Ev.ite_pos (lt_in hlt) (Ev.bind (lhas_ev _ (by omega) _ (closure_sub hb hx hm)) (Ev.ite_pos rfl (l34_ev i hx v hv n (j + 1) (by omega))))))
theorem l22_ev {p : Int} (v : Bool) (hv : Ev (fun k => laws_FnJoined.l10 k (wrap64 (p + 1)) t) v) : ∀ (n i : Nat), i + n = (closure t p).length → Ev (fun k => laws_FnJoined.l22 k p (i : Int) t (closure t p)) v
  | 0, i, hi => by
    refine Ev.step ?_
    simp only [laws_FnJoined.l22]
    exact Ev.ite_neg (by omega) hv
  | n + 1, i, hi => by
    have hl := closure_len' hb hsm hnm p
    have hlt : i < (closure t p).length := by omega
    have hm := getD_mem (z := (0 : Int)) hlt
    have hin := (mem_closure hb p _).1 hm
    have ih := l22_ev v hv n (i + 1) (by omega)
    have hr : rd (closure t p) (i : Int) = (closure t p).getD i 0 := rfl
    have body : Ev (fun k => if 0 ≤ (i : Int) then (if (i : Int) < ((closure t p).length : Int) then ((impl_Joined.f k t (rd (closure t p) (i : Int))).bind fun t7 => (laws_FnJoined.l34 k p (i : Int) 0 t (closure t p) t7)) else none) else none) v := by
      refine Ev.ite_pos ge_0 (Ev.ite_pos (lt_in hlt) ?_)
      rw [hr]
      exact Ev.bind (joined_ev hb hsm hnm ⟨hin.1, hin.2.1⟩) (l34_ev hb hsm hnm (i : Int) hm v (by rw [wrap_succ hlt (by omega)]; exact ih) (closure t ((closure t p).getD i 0)).length 0 (Nat.zero_add _))
    refine Ev.step ?_
    simp only [laws_FnJoined.l22]
    refine Ev.ite_pos (lt_in hlt) ?_
    by_cases h0 : (i : Int) > 0
    · rw [wrap_of (a := (i : Int) - 1) (by omega) (by omega)]
      refine Ev.ite_pos h0 (Ev.ite_pos (by omega) (Ev.ite_pos (by omega) (Ev.ite_pos ge_0 (Ev.ite_pos (lt_in hlt) (Ev.ite_neg ?_ body)))))
      have := pair_getD (bitsFrom_lt (clo t p) (clo t p).length 0) (show i - 1 < i by omega) hlt
      have e1 : rd (closure t p) ((i : Int) - 1) = (bitsFrom (clo t p) (clo t p).length 0).getD (i - 1) 0 := by
        show (closure t p).getD ((i : Int) - 1).toNat 0 = _
        rw [show ((i : Int) - 1).toNat = i - 1 by omega]
        rfl
      have e2 : rd (closure t p) (i : Int) = (bitsFrom (clo t p) (clo t p).length 0).getD i 0 := rfl
      rw [e1, e2]
      omega
    · exact Ev.ite_neg h0 body
theorem l44_ev : ∀ (n i : Nat), i + n = t.f9.length → Ev (fun k => laws_FnJoined.l44 k (i : Int) t) true
  | 0, i, hi => by
    refine Ev.step ?_
    simp only [laws_FnJoined.l44]
    exact Ev.ite_neg (by omega) (Ev.ret _)
  | n + 1, i, hi => by
    obtain ⟨h1, h2, h3, h4⟩ := sound_chans hb
    have hlt : i < t.f9.length := by omega
    have hm := getD_mem (z := z39) hlt
    have hc := h4 _ hm
    have hr : rd_T39 t.f9 (i : Int) = t.f9.getD i z39 := rfl
    have hfrom := closure_from hb hm
    have hboth := closure_both hb hm
    have hl := closure_len' hb hsm hnm (t.f9.getD i z39).f2
    have next : Ev (fun k => laws_FnJoined.l47 k (i : Int) t) true := Ev.step (by
      simp only [laws_FnJoined.l47, wrap_succ hlt (by omega)]
      exact l44_ev n (i + 1) (by omega))
    refine Ev.step ?_
    simp only [laws_FnJoined.l44, hr, sameO_self]
    refine Ev.ite_pos (lt_in hlt) (Ev.ite_pos ge_0 (Ev.ite_pos (lt_in hlt) (Ev.bind (infl_ev hb hsm hnm ⟨hc.t0, hc.t1⟩ hfrom) (Ev.ite_pos rfl ?_))))
    by_cases hk : (t.f9.getD i z39).f0 = 1
    · refine Ev.ite_pos hk (Ev.bind (joined_ev hb hsm hnm ⟨hc.f0, hc.f1⟩) (Ev.bind (joined_ev hb hsm hnm ⟨hc.t0, hc.t1⟩) ?_))
      rw [hboth hk]
      exact Ev.bind (lsame_ev _ (by omega)) (Ev.ite_pos rfl next)
    · exact Ev.ite_neg hk next
theorem l10_ev : ∀ (n p : Nat), p + n = t.f7.length → Ev (fun k => laws_FnJoined.l10 k (p : Int) t) true
  | 0, p, hp => by
    refine Ev.step ?_
    simp only [laws_FnJoined.l10]
    exact Ev.ite_neg (by omega) (l44_ev hb hsm hnm t.f9.length 0 (by omega))
  | n + 1, p, hp => by
    obtain ⟨h1, h2, h3, h4⟩ := sound_chans hb
    have hin : (0 : Int) ≤ (p : Int) ∧ (p : Int) < (t.f7.length : Int) := by omega
    have hl := closure_len' hb hsm hnm (p : Int)
    have hself : (p : Int) ∈ closure t (p : Int) := (mem_closure hb _ _).2 ⟨hin.1, hin.2, clo_self hb hin⟩
    refine Ev.step ?_
    simp only [laws_FnJoined.l10]
    refine Ev.ite_pos hin.2 (Ev.bind (joined_ev hb hsm hnm hin) (Ev.bind (lhas_ev _ (by omega) _ hself) (Ev.ite_pos rfl (Ev.bind (infl_ev hb hsm hnm hin hself) (Ev.ite_pos rfl ?_)))))
    refine l22_ev hb hsm hnm true ?_ (closure t (p : Int)).length 0 (by omega)
    rw [wrap_of (a := (p : Int) + 1) (by omega) (by omega)]
    exact l10_ev n (p + 1) (by omega)
end

theorem pure_FnJoined : ∀ (x0 : (Ty.sl (.int .u8)).den), Fits (.sl (.int .u8)) x0 → ∃ k, laws_FnJoined.c.fn k (x0, ()) () = some true := by
  intro code hf
  refine Ev.get (g := fun k => laws_FnJoined.f k code) ?_
  unfold laws_FnJoined.f laws_big.f
  simp only [Option.bind_some]
  refine Ev.ite_both (fun _ => Ev.ret _) fun hbig => ?_
  have hlen : code.length ≤ 1048576 := by
    have : ¬ (code.length : Int) > 1048576 := by simpa using hbig
    omega
  obtain ⟨t, hd, n, h2, h4, htab⟩ := draw_out code hlen
  exact Ev.bind hd (l10_ev htab.sound (htab.small (by omega)) (htab.names (by omega)) t.f7.length 0 (by omega))
end Go.Proofs.Ytfmbebgpbgcpeaa.PDr
