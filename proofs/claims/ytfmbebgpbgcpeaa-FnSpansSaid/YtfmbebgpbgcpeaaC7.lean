/- Plain Lean over the printed functions: which slot, which phase, who may begin a step (the reference), for sound tables. -/
import Derived.Test.YtfmbebgpbgcpeaaC6
set_option linter.unusedVariables false
set_option linter.unusedSimpArgs false
namespace Go.Proofs.Ytfmbebgpbgcpeaa.PDr
open Go Go.RowKit Go.Proofs.Ytfmbebgpbgcpeaa.V Go.Proofs.Ytfmbebgpbgcpeaa.C

theorem idxOf_skip {α : Type} (p : α → Bool) : ∀ (l : List α) (i : Nat) (k : Int), i ≤ l.length → (∀ x ∈ l.take i, p x = false) → idxOf p l k = idxOf p (l.drop i) (k + i)
  | [], i, k, hi, h => by simp at hi; subst hi; simp
  | x :: l, 0, k, hi, h => by simp
  | x :: l, i + 1, k, hi, h => by
    have hx := h x (by simp)
    rw [idxOf, if_neg (by simp [hx]), List.drop_succ_cons, idxOf_skip p l i (k + 1) (by simpa using hi) (fun y hy => h y (by simp [hy]))]
    congr 1
    omega
theorem idxOf_none {α : Type} (p : α → Bool) : ∀ (l : List α) (k : Int), (∀ x ∈ l, p x = false) → idxOf p l k = -1
  | [], k, h => rfl
  | x :: l, k, h => by rw [idxOf, if_neg (by simp [h x (by simp)]), idxOf_none p l _ (fun y hy => h y (by simp [hy]))]

/-! ### Slots, phases, who may begin -/
def atB (x : S61) (c : Int) : Bool := decide (c ≥ x.f1 ∧ c < wrap64 (x.f1 + x.f2))
def slotB (S : List S61) (c : Int) : Int := idxOf (fun x => atB x c) S 0
theorem slot_ev (t : S33) (hS : t.f10.length ≤ 1048576) (hm : ¬ t.f6 = 0) (c : Int) : Ev (fun k => spec_l15Slot.f k t c) (slotB t.f10 (c.tmod t.f6)) := by
  unfold spec_l15Slot.f slotB
  refine Ev.ite_neg hm ?_
  generalize c.tmod t.f6 = c
  refine Ev.idx t.f10 z61 _ (fun k i => spec_l15Slot.l6 k c i t) (Ev.step ?_) (fun i hi hp => Ev.step ?_) (fun i hi hp v hv => Ev.step ?_)
  · simp only [spec_l15Slot.l6]; exact Ev.ite_neg (by omega) (Ev.ret _)
  all_goals
    have hr : rd_T61 t.f10 (i : Int) = t.f10.getD i z61 := rfl
    simp only [spec_l15Slot.l6, hr, wrap_succ hi (by omega)]
    refine Ev.ite_pos (lt_in hi) (Ev.ite_pos ge_0 (Ev.ite_pos (lt_in hi) ?_))
  · have hp' := of_decide_eq_true hp
    exact Ev.ite_pos hp'.1 (Ev.ite_pos ge_0 (Ev.ite_pos (lt_in hi) (Ev.ite_pos ge_0 (Ev.ite_pos (lt_in hi) (Ev.ite_pos hp'.2 (Ev.ret _))))))
  · have hp' := of_decide_eq_false hp
    by_cases h1 : c ≥ (t.f10.getD i z61).f1
    · exact Ev.ite_pos h1 (Ev.ite_pos ge_0 (Ev.ite_pos (lt_in hi) (Ev.ite_pos ge_0 (Ev.ite_pos (lt_in hi) (Ev.ite_neg (fun h2 => hp' ⟨h1, h2⟩) hv)))))
    · exact Ev.ite_neg h1 hv
theorem slotB_bound (S : List S61) (c : Int) (h : ¬ slotB S c < 0) : 0 ≤ slotB S c ∧ slotB S c < (S.length : Int) := by
  rcases idxOf_find (fun x => atB x c) z61 S 0 with ⟨h1, _⟩ | ⟨j, h1, h2, _⟩
  · have h1' : slotB S c = -1 := h1
    omega
  · have h2' : slotB S c = ((0 + j : Nat) : Int) := h2
    omega
/-- The phase at a cycle of the frame. -/
def phaseV (t : S33) (c : Int) : Int :=
  if slotB t.f10 c < 0 then 0 else
    if wrap64 (c - (t.f10.getD (slotB t.f10 c).toNat z61).f1) < t.f4 then 1 else
      if wrap64 (c - (t.f10.getD (slotB t.f10 c).toNat z61).f1) ≥ wrap64 ((t.f10.getD (slotB t.f10 c).toNat z61).f2 - t.f5) then 3 else 2
theorem phase_ev (t : S33) (hS : t.f10.length ≤ 1048576) (hm : ¬ t.f6 = 0) (c : Int) : Ev (fun k => spec_l15Phase.f k t c) (phaseV t (c.tmod t.f6)) := by
  unfold spec_l15Phase.f
  refine Ev.bind (slot_ev t hS hm c) ?_
  generalize c.tmod t.f6 = c
  have hr : rd_T61 t.f10 (slotB t.f10 c) = t.f10.getD (slotB t.f10 c).toNat z61 := rfl
  rw [hr, phaseV]
  by_cases h : slotB t.f10 c < 0
  · exact Ev.ite_pos h (Ev.cast (Ev.ret _) (by rw [if_pos h]))
  · have hb := slotB_bound t.f10 c h
    simp only [if_neg h]
    refine Ev.ite_neg hm (Ev.ite_pos hb.1 (Ev.ite_pos hb.2 ?_))
    by_cases h1 : wrap64 (c - (t.f10.getD (slotB t.f10 c).toNat z61).f1) < t.f4
    · exact Ev.ite_pos h1 (Ev.cast (Ev.ret _) (by rw [if_pos h1]))
    · refine Ev.ite_neg h1 (Ev.ite_pos hb.1 (Ev.ite_pos hb.2 ?_))
      rw [if_neg h1]
      exact Ev.ite_both (fun h2 => Ev.cast (Ev.ret _) (by rw [if_pos h2])) (fun h2 => Ev.cast (Ev.ret _) (by rw [if_neg h2]))
/-- The partition that may begin a step at a cycle of the frame, or -1. -/
def beginV (t : S33) (c : Int) : Int := if phaseV t c = 2 then (t.f10.getD (slotB t.f10 c).toNat z61).f0 else -1
/-! ### Sound slots -/
structure SlotIn (t : S33) (s : S61) (fin : Int) : Prop where
  part : inB s.f0 0 (wrap64 ((t.f7.length : Int) - 1)) = true
  lo : fin ≤ s.f1
  len : t.f4 + t.f5 + 1 ≤ s.f2
  hi : s.f1 + s.f2 ≤ t.f6
theorem slotsL_cons {t : S33} {s : S61} {l : List S61} {fin : Int} (h : slotsL t (s :: l) fin = true) : SlotIn t s fin ∧ slotsL t l (s.f1 + s.f2) = true := by
  rw [slotsL, Bool.and_eq_true, Bool.and_eq_true, slotAtB, decide_eq_true_eq] at h
  exact ⟨⟨h.1, h.2.1.1, h.2.1.2.1, h.2.1.2.2⟩, h.2.2⟩
theorem slotsL_all {t : S33} (ht : SpansIn t) : ∀ (l : List S61) (fin : Int), slotsL t l fin = true → ∀ x ∈ l, SlotIn t x fin
  | [], fin, h, x, hx => by cases hx
  | s :: l, fin, h, x, hx => by
    obtain ⟨g1, g2⟩ := slotsL_cons h
    have hp := ht.pad; have hg := ht.guard
    have q2 := g1.len
    have q1 := g1.lo
    rcases List.mem_cons.1 hx with rfl | hx
    · exact g1
    · have := slotsL_all ht l _ g2 x hx
      exact ⟨this.part, by have := this.lo; omega, this.len, this.hi⟩
theorem slotB_gap {t : S33} (ht : SpansIn t) (i : Nat) (fin c : Int) (hi : i ≤ t.f10.length) (h0 : 0 ≤ fin)
    (he : ∀ x ∈ t.f10.take i, 0 ≤ x.f1 ∧ 0 ≤ x.f2 ∧ x.f1 + x.f2 ≤ fin) (hs : slotsL t (t.f10.drop i) fin = true) (hfm : fin ≤ 5000) (hc : fin ≤ c) (hlt : ∀ s l, t.f10.drop i = s :: l → c < s.f1) : slotB t.f10 c = -1 := by
  have hp := ht.pad; have hg := ht.guard; have hm := ht.major
  unfold slotB
  rw [idxOf_skip _ t.f10 i 0 hi (fun x hx => by
    have := he x hx
    unfold atB
    rw [wrap_of (by omega) (by omega)]
    simp; omega)]
  refine idxOf_none _ _ _ (fun x hx => ?_)
  cases hd : t.f10.drop i with
  | nil => rw [hd] at hx; cases hx
  | cons s l =>
    rw [hd] at hx hs
    have hl := hlt s l hd
    obtain ⟨g1, g2⟩ := slotsL_cons hs
    have q1 := g1.lo
    have q2 := g1.len
    unfold atB
    rcases List.mem_cons.1 hx with rfl | hx
    · simp; omega
    · have := (slotsL_all ht l _ g2 x hx).lo
      simp; omega
theorem slotB_in {t : S33} (i : Nat) (fin c : Int) (hi : i < t.f10.length) (h1 : fin ≤ 5000)
    (he : ∀ x ∈ t.f10.take i, 0 ≤ x.f1 ∧ 0 ≤ x.f2 ∧ x.f1 + x.f2 ≤ fin) (hc : fin ≤ c) (h2 : (t.f10.getD i z61).f1 ≤ c) (h3 : c < (t.f10.getD i z61).f1 + (t.f10.getD i z61).f2) (h4 : 0 ≤ (t.f10.getD i z61).f1) (h5 : (t.f10.getD i z61).f1 + (t.f10.getD i z61).f2 ≤ 5000) : slotB t.f10 c = (i : Int) := by
  unfold slotB
  rw [idxOf_skip _ t.f10 i 0 (by omega) (fun x hx => by
    have := he x hx
    unfold atB
    rw [wrap_of (by omega) (by omega)]
    simp; omega), Int.zero_add, Ev.drop_getD t.f10 z61 i hi, idxOf, if_pos]
  unfold atB
  rw [wrap_of (by omega) (by omega), decide_eq_true_eq]
  exact ⟨h2, h3⟩
/-- The cycles of one slot, told. -/
structure Cycles (t : S33) (s : S61) (fin : Int) : Prop where
  idle : ∀ x, fin ≤ x → x < s.f1 → phaseV t x = 0
  pad : ∀ x, s.f1 ≤ x → x < s.f1 + t.f4 → phaseV t x = 1
  run : ∀ x, s.f1 + t.f4 ≤ x → x < s.f1 + s.f2 - t.f5 → phaseV t x = 2
  guard : ∀ x, s.f1 + s.f2 - t.f5 ≤ x → x < s.f1 + s.f2 → phaseV t x = 3
  who : ∀ x, s.f1 + t.f4 ≤ x → x < s.f1 + s.f2 - t.f5 → beginV t x = s.f0
theorem cycles {t : S33} (ht : SpansIn t) (i : Nat) (fin : Int) (hi : i < t.f10.length) (h0 : 0 ≤ fin) (hfm : fin ≤ 5000) (he : ∀ x ∈ t.f10.take i, 0 ≤ x.f1 ∧ 0 ≤ x.f2 ∧ x.f1 + x.f2 ≤ fin) (hs : slotsL t (t.f10.drop i) fin = true) : Cycles t (t.f10.getD i z61) fin := by
  have hp := ht.pad; have hg := ht.guard; have hm := ht.major
  have hsd := Ev.drop_getD t.f10 z61 i hi
  have hs' := hs
  rw [hsd] at hs
  obtain ⟨g1, g2⟩ := slotsL_cons hs
  have q2 := g1.lo
  have q3 := g1.len
  have q4 := g1.hi
  have hin := fun c q1 q2 q3 q4 q5 => slotB_in (t := t) i fin c hi hfm he q1 q2 q3 q4 q5
  have hgn : t.f10.getD ((i : Int).toNat) z61 = t.f10.getD i z61 := by rw [Int.toNat_natCast]
  have hidle : ∀ x, fin ≤ x → x < (t.f10.getD i z61).f1 → phaseV t x = 0 := by
    intro x w1 w2
    have := slotB_gap ht i fin x (by omega) h0 he hs' hfm w1 (fun s l hd => by
      rw [hsd] at hd
      rw [← (List.cons.inj hd).1]
      exact w2)
    rw [phaseV, this, if_pos (by omega)]
  generalize t.f10.getD i z61 = s at *
  have hpad : ∀ x, s.f1 ≤ x → x < s.f1 + t.f4 → phaseV t x = 1 := by
    intro x w1 w2
    have hb := hin x (by omega) (by omega) (by omega) (by omega) (by omega)
    rw [phaseV, hb, if_neg (by omega), hgn, wrap_of (by omega) (by omega), if_pos (by omega)]
  have hrun : ∀ x, s.f1 + t.f4 ≤ x → x < s.f1 + s.f2 - t.f5 → phaseV t x = 2 := by
    intro x w1 w2
    have hb := hin x (by omega) (by omega) (by omega) (by omega) (by omega)
    rw [phaseV, hb, if_neg (by omega), hgn, wrap_of (a := x - s.f1) (by omega) (by omega), if_neg (by omega), wrap_of (by omega) (by omega), if_neg (by omega)]
  refine ⟨hidle, hpad, hrun, fun x w1 w2 => ?_, fun x w1 w2 => ?_⟩
  · have hb := hin x (by omega) (by omega) (by omega) (by omega) (by omega)
    rw [phaseV, hb, if_neg (by omega), hgn, wrap_of (a := x - s.f1) (by omega) (by omega), if_neg (by omega), wrap_of (by omega) (by omega), if_pos (by omega)]
  · have hb := hin x (by omega) (by omega) (by omega) (by omega) (by omega)
    rw [beginV, if_pos (hrun x w1 w2), hb, hgn]
end Go.Proofs.Ytfmbebgpbgcpeaa.PDr
