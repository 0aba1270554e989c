/- Plain Lean over the printed functions: channels, pads, slots; the reference's Sound and the program's isSound come to the same. -/
import Derived.Test.YtcjfheidmlcbfaaGreatDoorSC5
set_option linter.unusedVariables false
set_option linter.unusedSimpArgs false
namespace Go.Proofs.YtcjfheidmlcbfaaGreatDoor.PSr
open Go Go.RowKit Go.Proofs.YtcjfheidmlcbfaaGreatDoor.V Go.Proofs.YtcjfheidmlcbfaaGreatDoor.C

/-! ### Channels -/
def chanB (x : S77) : Bool := inB x.f1 0 5 && (inB x.f2 0 5 && (!decide (x.f1 = x.f2) && (decide (x.f0 = 0 ∧ x.f3 = 0) || decide (x.f0 = 1 ∧ 1 ≤ x.f3 ∧ x.f3 ≤ 8))))
theorem chan_some (x : S77) : impl_isChan.f x = some (chanB x) := by
  unfold impl_isChan.f chanB
  try simp only [lenZ_eq]
  simp only [within_some, Option.bind_some]
  cases inB x.f1 0 5
  · rfl
  cases inB x.f2 0 5
  · rfl
  simp only [if_true, Bool.true_and]
  by_cases h : x.f1 = x.f2
  · simp [h]
  · rw [if_neg h]
    by_cases h0 : x.f0 = 0
    · by_cases h3 : x.f3 = 0
      · simp [h, h0, h3]
      · simp [h, h0, h3]
    · by_cases h1 : x.f0 = 1
      · simp [h, h1, inB]
      · simp [h, h0, h1]
theorem chan_eq (x : S77) : spec_ChanOk.f x = some (chanB x) := chan_some x
theorem chan_in {x : S77} (h : chanB x = true) : (x.f0 = 0 ∧ x.f3 = 0) ∨ (x.f0 = 1 ∧ 1 ≤ x.f3 ∧ x.f3 ≤ 8) := by
  simp only [chanB, Bool.and_eq_true, Bool.or_eq_true, decide_eq_true_eq] at h
  exact h.2.2.2
/-- What is wrong with a channel. -/
def chanOut (n : Int) (x : S77) : Bool := !(chanB x) || (decide (x.f1 ≥ n) || decide (x.f2 ≥ n))
theorem sound2_some (x : S77) (n : Int) : impl_isSound_2.f x n = some (chanOut n x) := by
  unfold impl_isSound_2.f chanOut
  try simp only [lenZ_eq]
  rw [chan_some, Option.bind_some]
  cases chanB x
  · rfl
  · simp only [if_true, Bool.not_true, Bool.false_or]
    by_cases h : x.f1 ≥ n
    · simp [h]
    · simp [h]
theorem idx_chans (l : List S77) (x : Int) (hl : l.length ≤ 1048576) : Ev (fun k => slices_IndexFunc_127_78.f k l x) (idxOf (chanOut x) l 0) := by
  unfold slices_IndexFunc_127_78.f
  refine Ev.idx l z77 _ (fun k i => slices_IndexFunc_127_78.l4 k l x (l.length : Int) i) (Ev.step ?_) (fun i hi hp => Ev.step ?_) (fun i hi hp v hv => Ev.step ?_)
  · simp only [lenZ_eq, slices_IndexFunc_127_78.l4]; exact Ev.ite_neg (by omega) (Ev.ret _)
  all_goals
    simp only [lenZ_eq, slices_IndexFunc_127_78.l4, sound2_some, Option.bind_some, wrap_succ hi (by omega)]
    refine Ev.ite_pos (lt_in hi) (Ev.ite_pos ge_0 (Ev.ite_pos (lt_in hi) ?_))
  · exact Ev.ite_pos hp (Ev.ret _)
  · exact Ev.ite_neg (fun h => by rw [show chanOut x (rd_T77 l (i : Int)) = false from hp] at h; cases h) hv
theorem sound1_some (x : Int) (n : Int) : impl_isSound_1.f x n = some (!inB x 0 (wrap64 (n - 1))) := by
  unfold impl_isSound_1.f
  try simp only [lenZ_eq]
  rw [within_some]; rfl
theorem idx_devs (l : List Int) (x : Int) (hl : l.length ≤ 1048576) : Ev (fun k => slices_IndexFunc_126_76.f k l x) (idxOf (fun p => !inB p 0 (wrap64 (x - 1))) l 0) := by
  unfold slices_IndexFunc_126_76.f
  refine Ev.idx l 0 _ (fun k i => slices_IndexFunc_126_76.l4 k l x (l.length : Int) i) (Ev.step ?_) (fun i hi hp => Ev.step ?_) (fun i hi hp v hv => Ev.step ?_)
  · simp only [lenZ_eq, slices_IndexFunc_126_76.l4]; exact Ev.ite_neg (by omega) (Ev.ret _)
  all_goals
    simp only [lenZ_eq, slices_IndexFunc_126_76.l4, sound1_some, Option.bind_some, wrap_succ hi (by omega)]
    refine Ev.ite_pos (lt_in hi) (Ev.ite_pos ge_0 (Ev.ite_pos (lt_in hi) ?_))
  · exact Ev.ite_pos hp (Ev.ret _)
  · exact Ev.ite_neg (fun h => by rw [show (!inB (rd l (i : Int)) 0 (wrap64 (x - 1))) = false from hp] at h; cases h) hv

/-! ### Pads -/
def padL (c : S27) : List S77 → Int → Int
  | [], x => x
  | r :: l, x => padL c l (x + c.f0 * mx 1 r.f3)
def pad0 (c : S27) (s : S25) : Int := 16 * c.f0 + s.f0 * s.f1 * c.f6
def padV (c : S27) (s : S25) (l : List S77) : Int := padL c l (pad0 c s)
theorem pad0_in {c : S27} {s : S25} (h : CostsIn c) (hs : shapeB s = true) : 16 ≤ pad0 c s ∧ pad0 c s ≤ 3520 ∧ wrap64 (wrap64 (16 * c.f0) + wrap64 (wrap64 (s.f0 * s.f1) * c.f6)) = pad0 c s := by
  unfold shapeB at hs
  rw [decide_eq_true_eq] at hs
  have ha := h.a
  have hg := h.g
  unfold pad0
  generalize s.f0 = a at *
  generalize s.f1 = b at *
  generalize c.f6 = g at *
  generalize c.f0 = q at *
  have hp1 : 1 ≤ a * b ∧ a * b ≤ 64 := by
    obtain ⟨h1 | h1 | h1 | h1 | h1, _, h3, h4⟩ := hs <;> subst h1 <;> omega
  generalize a * b = m at hp1 ⊢
  have hp2 : 0 ≤ m * g ∧ m * g ≤ 3200 := by
    constructor
    · exact Int.mul_nonneg (by omega) hg.1
    · calc m * g ≤ 64 * g := Int.mul_le_mul_of_nonneg_right hp1.2 hg.1
        _ ≤ 3200 := by omega
  refine ⟨by omega, by omega, ?_⟩
  rw [wrap_of (a := 16 * q) (by omega) (by omega), wrap_of (a := m) (by omega) (by omega), wrap_of (a := m * g) (by omega) (by omega), wrap_of (by omega) (by omega)]
theorem pad_step {c : S27} (h : CostsIn c) {r : S77} (hr : chanB r = true) : 1 ≤ c.f0 * mx 1 r.f3 ∧ c.f0 * mx 1 r.f3 ≤ 160 := by
  have ha := h.a
  have hm : 1 ≤ mx 1 r.f3 ∧ mx 1 r.f3 ≤ 8 := by
    rcases chan_in hr with ⟨_, e⟩ | ⟨_, e1, e2⟩
    · rw [e]; exact ⟨by decide, by decide⟩
    · unfold mx; split <;> omega
  generalize mx 1 r.f3 = m at hm ⊢
  generalize c.f0 = q at ha ⊢
  constructor
  · have := Int.mul_le_mul ha.1 hm.1 (by omega) (by omega); omega
  · have := Int.mul_le_mul ha.2 hm.2 (by omega) (by omega); omega
theorem implPad {c : S27} (h : CostsIn c) {s : S25} (hs : shapeB s = true) (l : List S77) (hl : l.length ≤ 8) (hok : ∀ r ∈ l, chanB r = true) : Ev (fun k => impl_worstPad.f k c s l) (padV c s l) := by
  unfold impl_worstPad.f padV
  try simp only [lenZ_eq]
  obtain ⟨p1, p2, p3⟩ := pad0_in h hs
  rw [p3]
  have := Ev.list l z77 (padL c) (fun i x => 0 ≤ x ∧ x ≤ 3520 + 160 * (i : Int)) (fun k i x => impl_worstPad.l6 k x l (l.length : Int) i c) (fun x _ => Ev.step (by
    simp only [lenZ_eq, impl_worstPad.l6]; exact Ev.ite_neg (by omega) (Ev.ret _))) (fun i hi x hx ih => Ev.step (by
    have hr : rd_T77 l (i : Int) = l.getD i z77 := rfl
    obtain ⟨q1, q2⟩ := pad_step h (hok _ (getD_mem (z := z77) hi))
    simp only [lenZ_eq, impl_worstPad.l6, impl_depthOf.f, hr, Option.bind_some, wrap_succ hi (by omega)]
    rw [wrap_of (a := c.f0 * mx 1 (l.getD i z77).f3) (by omega) (by omega), wrap_of (a := x + c.f0 * mx 1 (l.getD i z77).f3) (by omega) (by omega)]
    exact Ev.ite_pos (lt_in hi) (Ev.ite_pos ge_0 (Ev.ite_pos (lt_in hi) (ih _ (by omega)))))) l.length 0 (by omega) (pad0 c s) (by omega)
  simpa using this
theorem specPad {c : S27} (hc : costsB c = true) {s : S25} (hs : shapeB s = true) (l : List S77) (hl : l.length ≤ 8) (hok : ∀ r ∈ l, chanB r = true) : Ev (fun k => spec_WorstPad.f k c s l) (padV c s l) := by
  have h := costs_in hc
  unfold spec_WorstPad.f padV
  try simp only [lenZ_eq]
  obtain ⟨p1, p2, p3⟩ := pad0_in h hs
  simp only [costs_some, shape_eq, hc, hs, Option.bind_some, if_true, p3]
  refine Ev.ite_neg (by omega) ?_
  have := Ev.list l z77 (padL c) (fun i x => 0 ≤ x ∧ x ≤ 3520 + 160 * (i : Int)) (fun k i x => spec_WorstPad.l10 k l x i c) (fun x _ => Ev.step (by
    simp only [lenZ_eq, spec_WorstPad.l10]; exact Ev.ite_neg (by omega) (Ev.ret _))) (fun i hi x hx ih => Ev.step (by
    have hr : rd_T77 l (i : Int) = l.getD i z77 := rfl
    have hm := getD_mem (z := z77) hi
    obtain ⟨q1, q2⟩ := pad_step h (hok _ hm)
    have hch := hok _ hm
    simp only [lenZ_eq, spec_WorstPad.l10, hr, chan_eq, hch, if_true, Option.bind_some, wrap_succ hi (by omega), padL]
    refine Ev.ite_pos (lt_in hi) (Ev.ite_pos ge_0 (Ev.ite_pos (lt_in hi) (Ev.ite_pos ge_0 (Ev.ite_pos (lt_in hi) ?_))))
    have ih' := ih (x + c.f0 * mx 1 (l.getD i z77).f3) (by omega)
    have ha := h.a
    rcases chan_in hch with ⟨e0, e3⟩ | ⟨e0, e3, e4⟩
    · refine Ev.ite_pos e0 ?_
      rw [e3, show mx 1 0 = 1 by rfl, Int.mul_one] at ih' ⊢
      rw [wrap_of (a := x + c.f0) (by omega) (by omega)]
      exact ih'
    · refine Ev.ite_neg (by omega) (Ev.ite_pos ge_0 (Ev.ite_pos (lt_in hi) ?_))
      have em : mx 1 (l.getD i z77).f3 = (l.getD i z77).f3 := by unfold mx; split <;> omega
      rw [em] at ih' q1 q2 ⊢
      rw [wrap_of (a := c.f0 * (l.getD i z77).f3) (by omega) (by omega), wrap_of (a := x + c.f0 * (l.getD i z77).f3) (by omega) (by omega)]
      exact ih')) l.length 0 (by omega) (pad0 c s) (by omega)
  simpa using this

/-! ### The reference's channels and slots -/
def devsB (n : Int) (l : List Int) : Bool := !decide ((l.length : Int) > 8) && !(l.any fun p => !inB p 0 (wrap64 (n - 1)))
def chansB (t : S33) : Bool := !decide ((t.f9.length : Int) > 8) && (!(t.f9.any (chanOut (t.f7.length : Int))) && decide (t.f4 ≥ padV t.f3 t.f1 t.f9))
theorem any_not_all {α : Type} (p : α → Bool) (l : List α) : (!(l.any fun x => !p x)) = l.all p := by
  induction l with
  | nil => rfl
  | cons x l ih => simp only [List.any_cons, List.all_cons, Bool.not_or, Bool.not_not, ih]
theorem any_not_all' {α : Type} (p : α → Bool) (l : List α) : (!(l.any p)) = l.all fun x => !p x := by
  induction l with
  | nil => rfl
  | cons x l ih => simp only [List.any_cons, List.all_cons, Bool.not_or, ih]
theorem chans_ok {n : Int} {l : List S77} (h : (l.all fun x => !chanOut n x) = true) : ∀ r ∈ l, chanB r = true := fun r hr => by
  have := List.all_eq_true.1 h r hr
  simp only [chanOut, Bool.not_or, Bool.not_not, Bool.and_eq_true] at this
  exact this.1
theorem chans_l18 (t : S33) (hc : costsB t.f3 = true) (hs : shapeB t.f1 = true) (hl : t.f9.length ≤ 8) : Ev (fun k => spec_l13Chans.l18 k 0 t) (!(t.f9.any (chanOut (t.f7.length : Int))) && decide (t.f4 ≥ padV t.f3 t.f1 t.f9)) := by
  rw [any_not_all']
  refine Ev.all t.f9 z77 _ (fun k i => spec_l13Chans.l18 k i t) _ (fun ha => Ev.step ?_) (fun i hi v hv => Ev.step ?_) (fun i hi hp => Ev.step ?_)
  · simp only [lenZ_eq, spec_l13Chans.l18]
    exact Ev.ite_neg (by omega) (Ev.bind (specPad hc hs t.f9 hl (chans_ok ha)) (Ev.ret _))
  all_goals
    have hr : rd_T77 t.f9 (i : Int) = t.f9.getD i z77 := rfl
    simp only [lenZ_eq, spec_l13Chans.l18, hr, chan_eq, Option.bind_some, wrap_succ hi (by omega)]
  · generalize t.f9.getD i z77 = x
    refine Ev.ite_pos (lt_in hi) (Ev.ite_pos ge_0 (Ev.ite_pos (lt_in hi) ?_))
    have e : (!chanOut (t.f7.length : Int) x && v) = (chanB x && (!decide (x.f1 ≥ (t.f7.length : Int)) && (!decide (x.f2 ≥ (t.f7.length : Int)) && v))) := by
      simp only [chanOut, Bool.not_or, Bool.not_not, Bool.and_assoc]
    rw [e]
    exact Ev.and_true fun _ => Ev.ite_pos ge_0 (Ev.ite_pos (lt_in hi) (Ev.or_prop fun _ => Ev.ite_pos ge_0 (Ev.ite_pos (lt_in hi) (Ev.or_prop fun _ => hv))))
  · generalize t.f9.getD i z77 = x at hp ⊢
    refine Ev.ite_pos (lt_in hi) (Ev.ite_pos ge_0 (Ev.ite_pos (lt_in hi) ?_))
    simp only [chanOut, Bool.not_or, Bool.not_not] at hp
    by_cases c : chanB x = true
    · refine Ev.ite_pos c (Ev.ite_pos ge_0 (Ev.ite_pos (lt_in hi) ?_))
      by_cases c1 : x.f1 ≥ (t.f7.length : Int)
      · exact Ev.ite_pos c1 (Ev.ret _)
      · refine Ev.ite_neg c1 (Ev.ite_pos ge_0 (Ev.ite_pos (lt_in hi) (Ev.ite_pos ?_ (Ev.ret _))))
        rw [c, decide_eq_false c1] at hp
        simpa using hp
    · exact Ev.ite_neg c (Ev.ret _)
theorem chans_l8 (t : S33) (v : Bool) (hl : t.f8.length ≤ 8) (hv : Ev (fun k => spec_l13Chans.l18 k 0 t) v) : Ev (fun k => spec_l13Chans.l8 k 0 t) (!(t.f8.any fun p => !inB p 0 (wrap64 ((t.f7.length : Int) - 1))) && v) := by
  rw [any_not_all]
  refine Ev.all t.f8 0 _ (fun k i => spec_l13Chans.l8 k i t) _ (fun _ => Ev.step ?_) (fun i hi v hv => Ev.step ?_) (fun i hi hp => Ev.step ?_)
  · simp only [lenZ_eq, spec_l13Chans.l8]
    exact Ev.ite_neg (by omega) hv
  all_goals
    have hr : rd t.f8 (i : Int) = t.f8.getD i 0 := rfl
    simp only [lenZ_eq, spec_l13Chans.l8, hr, l01In_some, Option.bind_some, wrap_succ hi (by omega)]
  · exact Ev.ite_pos (lt_in hi) (Ev.ite_pos ge_0 (Ev.ite_pos (lt_in hi) (Ev.and_true fun _ => hv)))
  · exact Ev.ite_pos (lt_in hi) (Ev.ite_pos ge_0 (Ev.ite_pos (lt_in hi) (Ev.ite_neg (fun h => by rw [hp] at h; cases h) (Ev.ret _))))
theorem specChans (t : S33) (hc : costsB t.f3 = true) (hs : shapeB t.f1 = true) : Ev (fun k => spec_l13Chans.f k t) (devsB (t.f7.length : Int) t.f8 && chansB t) := by
  unfold spec_l13Chans.f
  try simp only [lenZ_eq]
  have e : (devsB (t.f7.length : Int) t.f8 && chansB t) = (!decide ((t.f8.length : Int) > 8) && (!decide ((t.f9.length : Int) > 8) && (!(t.f8.any fun p => !inB p 0 (wrap64 ((t.f7.length : Int) - 1))) && (!(t.f9.any (chanOut (t.f7.length : Int))) && decide (t.f4 ≥ padV t.f3 t.f1 t.f9))))) := by
    unfold devsB chansB
    cases decide ((t.f8.length : Int) > 8) <;> cases decide ((t.f9.length : Int) > 8) <;> simp
  rw [e]
  exact Ev.or_prop fun h1 => Ev.or_prop fun h2 => chans_l8 t _ (by omega) (chans_l18 t hc hs (by omega))
/-- A slot that fits behind 'fin'. -/
def slotAtB (t : S33) (s : S182) (fin : Int) : Bool := decide (fin ≤ s.f1 ∧ t.f4 + t.f5 + 1 ≤ s.f2 ∧ s.f1 + s.f2 ≤ t.f6)
def slotsL (t : S33) : List S182 → Int → Bool
  | [], _ => true
  | s :: l, fin => inB s.f0 0 (wrap64 ((t.f7.length : Int) - 1)) && (slotAtB t s fin && slotsL t l (s.f1 + s.f2))
def slotsB (t : S33) : Bool := slotsL t t.f10 0 && inB (t.f10.length : Int) 1 16
structure SpansIn (t : S33) : Prop where
  pad : 1 ≤ t.f4 ∧ t.f4 ≤ 5000
  guard : 1 ≤ t.f5 ∧ t.f5 ≤ 5000
  major : 1 ≤ t.f6 ∧ t.f6 ≤ 5000
theorem specSlots (t : S33) (h : SpansIn t) (hl : t.f10.length ≤ 1048576) : Ev (fun k => spec_l13Slots.f k t) (slotsB t) := by
  have hp := h.pad; have hg := h.guard; have hm := h.major
  unfold spec_l13Slots.f slotsB
  try simp only [lenZ_eq]
  simp only [l01In_some, Option.bind_some]
  rw [Bool.and_comm]
  refine Ev.and_true fun _ => ?_
  have := Ev.list t.f10 z182 (slotsL t) (fun _ fin => 0 ≤ fin ∧ fin ≤ 5000) (fun k i fin => spec_l13Slots.l10 k fin i t) (fun fin _ => Ev.step (by
    simp only [lenZ_eq, spec_l13Slots.l10]; exact Ev.ite_neg (by omega) (Ev.ret _))) (fun i hi fin hf ih => Ev.step (by
    have hr : rd_T182 t.f10 (i : Int) = t.f10.getD i z182 := rfl
    have e1 : wrap64 (wrap64 (t.f4 + t.f5) + 1) = t.f4 + t.f5 + 1 := by rw [wrap_of (a := t.f4 + t.f5) (by omega) (by omega), wrap_of (by omega) (by omega)]
    simp only [lenZ_eq, spec_l13Slots.l10, hr, l01In_some, Option.bind_some, wrap_succ hi (by omega), e1, slotsL]
    generalize t.f10.getD i z182 = s at ih ⊢
    refine Ev.ite_pos (lt_in hi) (Ev.ite_pos ge_0 (Ev.ite_pos (lt_in hi) (Ev.and_true fun _ => ?_)))
    by_cases b2 : inB s.f1 fin 5000 = true
    · refine Ev.ite_pos b2 ?_
      have b2' := in_iff.1 b2
      by_cases b3 : inB s.f2 (t.f4 + t.f5 + 1) 5000 = true
      · have b3' := in_iff.1 b3
        rw [wrap_of (a := s.f1 + s.f2) (by omega) (by omega)]
        refine Ev.ite_pos b3 ?_
        by_cases b4 : s.f1 + s.f2 > t.f6
        · exact Ev.ite_pos b4 (Ev.cast (Ev.ret _) (by rw [slotAtB, decide_eq_false (by omega)]; rfl))
        · exact Ev.ite_neg b4 (Ev.cast (ih _ (by omega)) (by rw [slotAtB, decide_eq_true (by omega)]; rfl))
      · refine Ev.ite_neg b3 (Ev.cast (Ev.ret _) ?_)
        rw [in_iff] at b3
        rw [slotAtB, decide_eq_false (by omega)]; rfl
    · refine Ev.ite_neg b2 (Ev.cast (Ev.ret _) ?_)
      rw [in_iff] at b2
      rw [slotAtB, decide_eq_false (by omega)]; rfl)) t.f10.length 0 (by omega) 0 (by omega)
  simpa using this
theorem isSlotAt_some (t : S33) (h : SpansIn t) (s : S182) (fin : Int) (hf : 0 ≤ fin ∧ fin ≤ 5000) : impl_isSlotAt.f t s fin = some (slotAtB t s fin) := by
  have hp := h.pad; have hg := h.guard; have hm := h.major
  unfold impl_isSlotAt.f slotAtB
  try simp only [lenZ_eq]
  rw [wrap_of (a := t.f4 + t.f5) (by omega) (by omega)]
  by_cases c1 : s.f2 > t.f4 + t.f5
  · rw [if_pos c1]
    by_cases c2 : s.f2 ≤ t.f6
    · rw [if_pos c2, wrap_of (a := t.f6 - s.f2) (by omega) (by omega)]
      by_cases c3 : s.f1 ≥ fin
      · rw [if_pos c3]
        exact bool_some (by rw [decide_eq_true_eq]; omega)
      · rw [if_neg c3]
        exact no_some (by omega)
    · rw [if_neg c2]
      exact no_some (by omega)
  · rw [if_neg c1]
    exact no_some (by omega)
theorem implSlots (t : S33) (h : SpansIn t) (hl : t.f10.length ≤ 1048576) : Ev (fun k => impl_areSlots.f k t) (slotsB t) := by
  have hp := h.pad; have hg := h.guard; have hm := h.major
  unfold impl_areSlots.f slotsB
  try simp only [lenZ_eq]
  have := Ev.list t.f10 z182 (fun l fin => slotsL t l fin && inB (t.f10.length : Int) 1 16) (fun _ fin => 0 ≤ fin ∧ fin ≤ 5000) (fun k i fin => impl_areSlots.l6 k fin t.f10 (t.f10.length : Int) i t) (fun fin _ => Ev.step (by
    simp only [lenZ_eq, impl_areSlots.l6, within_some, Option.bind_some]; exact Ev.ite_neg (by omega) (Ev.ret _))) (fun i hi fin hf ih => Ev.step (by
    have hr : rd_T182 t.f10 (i : Int) = t.f10.getD i z182 := rfl
    simp only [lenZ_eq, impl_areSlots.l6, hr, within_some, isSlotAt_some t h _ fin hf, Option.bind_some, wrap_succ hi (by omega), slotsL, Bool.and_assoc]
    generalize t.f10.getD i z182 = s at ih ⊢
    refine Ev.ite_pos (lt_in hi) (Ev.ite_pos ge_0 (Ev.ite_pos (lt_in hi) (Ev.and_true fun _ => Ev.and_true fun hs => ?_)))
    have hs' := of_decide_eq_true hs
    rw [wrap_of (a := s.f1 + s.f2) (by omega) (by omega)]
    exact ih _ (by omega))) t.f10.length 0 (by omega) 0 (by omega)
  simpa using this

/-! ### Sound -/
def soundB (t : S33) : Bool := headB t && (specPartsB t && ((devsB (t.f7.length : Int) t.f8 && chansB t) && slotsB t))
theorem head_in {t : S33} (h : headB t = true) : costsB t.f3 = true ∧ shapeB t.f1 = true ∧ SpansIn t := by
  simp only [headB, Bool.and_eq_true, spanB, in_iff] at h
  exact ⟨h.2.2.2.2.1, h.2.2.1, ⟨h.2.2.2.2.2.1, h.2.2.2.2.2.2.1, h.2.2.2.2.2.2.2.1⟩⟩
theorem specSound (t : S33) (hs : Small t) (hnm : ∀ p ∈ t.f7, p.f0.size ≤ 9223372036854775807) : Ev (fun k => spec_Sound.f k t) (soundB t) := by
  unfold spec_Sound.f soundB
  try simp only [lenZ_eq]
  refine Ev.bind (head_ev t) (Ev.and_true fun h => ?_)
  obtain ⟨h1, h2, h3⟩ := head_in h
  exact Ev.bind (specParts t hnm) (Ev.and_true fun _ => Ev.bind (specChans t h1 h2) (Ev.and_true fun _ => Ev.bind (specSlots t h3 hs.slots) (Ev.ret _)))
theorem implSound (t : S33) (hs : Small t) (hnm : ∀ p ∈ t.f7, p.f0.size ≤ 9223372036854775807) : Ev (fun k => impl_isSound.f k t) (soundB t) := by
  unfold impl_isSound.f soundB headB
  try simp only [lenZ_eq]
  have e : ∀ a b c d e f g x y z : Bool, (a && b && c) = (a && (b && c)) := fun a b c d e f g x y z => Bool.and_assoc a b c
  simp only [mem_some, shape_some, within_some, span_some, Option.bind_some, Bool.and_assoc]
  have hmem : ∀ r : Bool, (inB t.f0 64 2048 && (decide (t.f0.tmod 4 = 0) && r)) = (memB t.f0 && r) := fun r => by rw [memB, Bool.and_assoc]
  rw [hmem]
  refine Ev.and_true fun _ => Ev.and_true fun hsh => Ev.and_true fun _ => Ev.bind (costs_ev t.f3) (Ev.and_true fun hc => Ev.and_true fun hp => Ev.and_true fun hg => Ev.and_true fun hm => Ev.bind (implStep hc) ?_)
  have hspan : SpansIn t := ⟨in_iff.1 hp, in_iff.1 hg, in_iff.1 hm⟩
  have e1 : decide (t.f5 ≥ stepV t.f3) = !decide (t.f5 < stepV t.f3) := by
    by_cases c : t.f5 < stepV t.f3
    · rw [decide_eq_true c, decide_eq_false (by omega)]; rfl
    · rw [decide_eq_false c, decide_eq_true (by omega)]; rfl
  rw [e1]
  refine Ev.or_prop fun _ => ?_
  rw [specPartsB, parts_eq, Bool.and_assoc]
  refine Ev.and_true fun h6 => ?_
  have h6' := in_iff.1 h6
  refine Ev.bind (implParts t (by omega) hnm) (Ev.and_true fun _ => ?_)
  rw [devsB, Bool.and_assoc]
  refine Ev.or_prop fun h8 => ?_
  refine Ev.bind (a := t.f8.any fun p => !inB p 0 (wrap64 ((t.f7.length : Int) - 1))) ?_ (not_prop fun _ => ?_)
  · unfold slices_ContainsFunc_75_76.f
    refine Ev.bind (idx_devs t.f8 _ hs.devs) (Ev.cast (Ev.ret _) ?_)
    rw [Bool.eq_iff_iff, decide_eq_true_eq, idxOf_ge _ _ _ (Int.le_refl 0)]
  rw [chansB, Bool.and_assoc, Bool.and_assoc]
  refine Ev.or_prop fun h9 => ?_
  refine Ev.bind (a := t.f9.any (chanOut (t.f7.length : Int))) ?_ (not_prop fun hch => ?_)
  · unfold slices_ContainsFunc_77_78.f
    refine Ev.bind (idx_chans t.f9 _ hs.chans) (Ev.cast (Ev.ret _) ?_)
    rw [Bool.eq_iff_iff, decide_eq_true_eq, idxOf_ge _ _ _ (Int.le_refl 0)]
  have hok : ∀ r ∈ t.f9, chanB r = true := chans_ok (n := (t.f7.length : Int)) (by rw [← any_not_all', hch]; rfl)
  refine Ev.bind (implPad (costs_in hc) hsh t.f9 (by omega) hok) ?_
  have e2 : decide (t.f4 ≥ padV t.f3 t.f1 t.f9) = !decide (t.f4 < padV t.f3 t.f1 t.f9) := by
    by_cases c : t.f4 < padV t.f3 t.f1 t.f9
    · rw [decide_eq_true c, decide_eq_false (by omega)]; rfl
    · rw [decide_eq_false c, decide_eq_true (by omega)]; rfl
  rw [e2]
  exact Ev.or_prop fun _ => Ev.bind (implSlots t hspan hs.slots) (Ev.ret _)
end Go.Proofs.YtcjfheidmlcbfaaGreatDoor.PSr
