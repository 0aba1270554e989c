/- Plain Lean over the printed functions: slots merged, split, cut evenly (both ways). -/
import Derived.Test.YtgnhojiogkeepaaC17
set_option linter.unusedVariables false
set_option linter.unusedSimpArgs false
set_option linter.unusedSectionVars false
namespace Go.Proofs.Ytgnhojiogkeepaa.PSp
open Go Go.RowKit Go.Proofs.Ytgnhojiogkeepaa.V Go.Proofs.Ytgnhojiogkeepaa.C

theorem same_self {R : Type} (x : Option R) : sameO x x = x := by simp [sameO]

def zeroT : S50 := (0, (0, 0, 0), 0, (0, 0, 0, 0, 0, 0, 0), 0, 0, 0, [], [], [], [])
theorem zeroT_small : Small zeroT := ⟨by decide, fun x hx => (by cases hx), by decide, by decide, by decide⟩

theorem repl_some (l v : List S86) (i j : Nat) (hij : i < j) (hj : j ≤ l.length) (hv : 0 < v.length) (hne : i + v.length ≠ j) (hl : l.length ≤ 1048576) (hvl : v.length ≤ 10) :
    slices_Replace_64_o1.f (i : Int) (j : Int) v l = some (l.take i ++ (v ++ l.drop j)) := by
  unfold slices_Replace_64_o1.f repl
  rw [if_pos (by simp only [Int.toNat_natCast]; omega)]
  simp only [Int.toNat_natCast]

/-! ### Merge -/
def slotAt (t : S50) (i : Nat) : S86 := t.f10.getD i z86
def mergeAt (t : S50) (i : Nat) : List S86 := t.f10.take i ++ ([((slotAt t i).f0, (slotAt t i).f1, wrap64 ((slotAt t i).f2 + (slotAt t (i + 1)).f2))] ++ t.f10.drop (i + 2))
def mergeV (t : S50) (i : Int) : S50 × Bool :=
  if soundB t = true then if inB i 0 ((t.f10.length : Int) - 2) = true then if (slotAt t i.toNat).f0 = (slotAt t (i.toNat + 1)).f0 then if wrap64 ((slotAt t i.toNat).f1 + (slotAt t i.toNat).f2) = (slotAt t (i.toNat + 1)).f1 then (setSl t (mergeAt t i.toNat), true) else (zeroT, false) else (zeroT, false) else (zeroT, false) else (zeroT, false)
theorem mergeAt_len {t : S50} {i : Nat} (h : i + 2 ≤ t.f10.length) : (mergeAt t i).length = t.f10.length - 1 := by
  simp only [mergeAt, List.length_append, List.length_take, List.length_drop, List.length_cons, List.length_nil]
  omega
theorem mergeV_small {t : S50} (h : Small t) (i : Int) : Small (mergeV t i).1 := by
  have hl := h.slots
  unfold mergeV
  split
  · split
    · rename_i hi
      have hi' := in_iff.1 hi
      split
      · split
        · exact setSl_small h (by rw [mergeAt_len (by omega)]; omega)
        · exact zeroT_small
      · exact zeroT_small
    · exact zeroT_small
  · exact zeroT_small

theorem implMerge_ev (t : S50) (h : Small t) (hnm : ∀ p ∈ t.f7, p.f0.size ≤ 9223372036854775807) (i : Int) : Ev (fun k => impl_Merge.f k t i) (mergeV t i) := by
  have hl := h.slots
  unfold impl_Merge.f mergeV
  try simp only [lenZ_eq]
  refine Ev.bind (implSound t h hnm) ?_
  by_cases c : soundB t = true
  case neg => rw [if_neg c]; exact Ev.ite_neg c (Ev.ret _)
  rw [if_pos c]
  refine Ev.ite_pos c ?_
  simp only [within_some, Option.bind_some, same_self]
  rw [wrap_of (a := (t.f10.length : Int) - 2) (by omega) (by omega)]
  by_cases d : inB i 0 ((t.f10.length : Int) - 2) = true
  case neg => rw [if_neg d]; exact Ev.ite_neg d (Ev.ret _)
  rw [if_pos d]
  refine Ev.ite_pos d ?_
  have d' := in_iff.1 d
  obtain ⟨n, rfl⟩ : ∃ n : Nat, i = n := ⟨i.toNat, by omega⟩
  have hn : n + 2 ≤ t.f10.length := by omega
  have w1 : wrap64 ((n : Int) + 1) = ((n + 1 : Nat) : Int) := by rw [wrap_of (by omega) (by omega)]; omega
  have w2 : wrap64 ((n : Int) + 2) = ((n + 2 : Nat) : Int) := by rw [wrap_of (by omega) (by omega)]; omega
  simp only [w1, rd_T86, Int.toNat_natCast]
  refine Ev.ite_pos (by omega) (Ev.ite_pos (by omega) (Ev.ite_pos (by omega) (Ev.ite_pos (by omega) (Ev.step ?_))))
  simp only [lenZ_eq, impl_Merge.l9, same_self, cloneS _ hl, Option.bind_some, w2]
  change Ev (fun k => if (slotAt t n).f0 = (slotAt t (n + 1)).f0 then _ else _) _
  by_cases e : (slotAt t n).f0 = (slotAt t (n + 1)).f0
  case neg => rw [if_neg e]; exact Ev.ite_neg e (Ev.ret _)
  rw [if_pos e]
  refine Ev.ite_pos e ?_
  change Ev (fun k => if wrap64 ((slotAt t n).f1 + (slotAt t n).f2) = (slotAt t (n + 1)).f1 then _ else _) _
  by_cases f : wrap64 ((slotAt t n).f1 + (slotAt t n).f2) = (slotAt t (n + 1)).f1
  case neg => rw [if_neg f]; exact Ev.ite_neg f (Ev.ret _)
  rw [if_pos f]
  refine Ev.ite_pos f ?_
  have := repl_some t.f10 [(((slotAt t n).f0, (slotAt t n).f1, wrap64 ((slotAt t n).f2 + (slotAt t (n + 1)).f2)) : S86)] n (n + 2) (by omega) hn (by simp) (by simp) hl (by simp)
  simp only [slotAt] at this
  simp only [this, Option.bind_some]
  exact Ev.bind (withSlots_ev t h (mergeAt t n) (by rw [mergeAt_len hn]; omega)) (Ev.ret _)

/-! ### Split -/
def leastV (t : S50) : Int := wrap64 (wrap64 (t.f4 + t.f5) + 1)
def twoV (s : S86) (first : Int) : List S86 := [(s.f0, s.f1, first), (s.f0, wrap64 (s.f1 + first), wrap64 (s.f2 - first))]
def splitAt (sl : List S86) (i : Nat) (first : Int) : List S86 := sl.take i ++ (twoV (sl.getD i z86) first ++ sl.drop (i + 1))
def splitL (t : S50) (sl : List S86) (i first : Int) : List S86 × Bool :=
  if inB i 0 ((sl.length : Int) - 1) = true then if (sl.length : Int) = 16 then ([], false) else if inB first (leastV t) (wrap64 ((sl.getD i.toNat z86).f2 - leastV t)) = true then (splitAt sl i.toNat first, true) else ([], false) else ([], false)
def splitV (t : S50) (i first : Int) : S50 × Bool :=
  if soundB t = true then if (splitL t t.f10 i first).2 = true then (setSl t (splitL t t.f10 i first).1, true) else (zeroT, false) else (zeroT, false)
theorem splitAt_len {sl : List S86} {i : Nat} {f : Int} (h : i < sl.length) : (splitAt sl i f).length = sl.length + 1 := by
  simp only [splitAt, twoV, List.length_append, List.length_take, List.length_drop, List.length_cons, List.length_nil]
  omega
theorem splitL_len (t : S50) (sl : List S86) (i f : Int) : (splitL t sl i f).1.length ≤ sl.length + 1 := by
  unfold splitL
  split
  · rename_i hi
    have hi' := in_iff.1 hi
    split
    · simp
    split
    · show (splitAt _ _ _).length ≤ _
      rw [splitAt_len (by omega)]; omega
    · simp
  · simp
theorem sound_len {t : S50} (h : soundB t = true) : 1 ≤ t.f10.length ∧ t.f10.length ≤ 16 := by
  unfold soundB slotsB at h
  simp only [Bool.and_eq_true, in_iff] at h
  omega
theorem splitV_small {t : S50} (h : Small t) (i f : Int) : Small (splitV t i f).1 := by
  unfold splitV
  split
  · rename_i hs
    have := sound_len hs
    split
    · exact setSl_small h (by have := splitL_len t t.f10 i f; omega)
    · exact zeroT_small
  · exact zeroT_small

theorem implSplit_some (t : S50) (sl : List S86) (hl : sl.length ≤ 1048576) (i f : Int) : impl_split.f t sl i f = some (splitL t sl i f) := by
  unfold impl_split.f splitL
  try simp only [lenZ_eq]
  simp only [within_some, Option.bind_some]
  rw [wrap_of (a := (sl.length : Int) - 1) (by omega) (by omega)]
  by_cases d : inB i 0 ((sl.length : Int) - 1) = true
  case neg => rw [if_neg d, if_neg d]
  rw [if_pos d, if_pos d]
  have d' := in_iff.1 d
  obtain ⟨n, rfl⟩ : ∃ n : Nat, i = n := ⟨i.toNat, by omega⟩
  have hn : n < sl.length := by omega
  by_cases e : (sl.length : Int) = 16
  · rw [if_pos e, if_pos e]
  rw [if_neg e, if_neg e, if_pos (by omega), if_pos (by omega)]
  have w1 : wrap64 ((n : Int) + 1) = ((n + 1 : Nat) : Int) := by rw [wrap_of (by omega) (by omega)]; omega
  simp only [rd_T86, Int.toNat_natCast]
  change (if inB f (leastV t) (wrap64 ((sl.getD n z86).f2 - leastV t)) = true then _ else _) = _
  by_cases g : inB f (leastV t) (wrap64 ((sl.getD n z86).f2 - leastV t)) = true
  case neg => rw [if_neg g, if_neg g]
  rw [if_pos g, if_pos g, if_pos (by omega), if_pos (by omega)]
  simp only [cloneS _ hl, Option.bind_some, w1]
  have := repl_some sl (twoV (sl.getD n z86) f) n (n + 1) (by omega) (by omega) (by simp [twoV]) (by simp [twoV]) hl (by simp [twoV])
  unfold twoV at this
  rw [this]
  simp only [same_self, Option.bind_some]
  rfl

theorem implSplit_ev (t : S50) (h : Small t) (hnm : ∀ p ∈ t.f7, p.f0.size ≤ 9223372036854775807) (i f : Int) : Ev (fun k => impl_Split.f k t i f) (splitV t i f) := by
  unfold impl_Split.f splitV
  try simp only [lenZ_eq]
  refine Ev.bind (implSound t h hnm) ?_
  by_cases c : soundB t = true
  case neg => rw [if_neg c]; exact Ev.ite_neg c (Ev.ret _)
  rw [if_pos c]
  refine Ev.ite_pos c ?_
  have hsl := sound_len c
  simp only [implSplit_some t t.f10 h.slots, Option.bind_some]
  by_cases d : (splitL t t.f10 i f).2 = true
  case neg => rw [if_neg d]; exact Ev.ite_neg d (Ev.ret _)
  rw [if_pos d]
  exact Ev.ite_pos d (Ev.bind (withSlots_ev t h _ (by have := splitL_len t t.f10 i f; omega)) (Ev.ret _))

/-- What is still to come of the split row. -/
def restV (sl : List S86) (i x : Nat) (f : Int) : List S86 := if x ≤ i then (sl.take i).drop x ++ (twoV (sl.getD i z86) f ++ sl.drop (i + 1)) else sl.drop x
theorem specSplit_l18 (t : S50) (h : Small t) (hl : t.f10.length ≤ 16) (i : Nat) (hi : i < t.f10.length) (f : Int) : ∀ (m x : Nat) (y : S50) (acc : List S86), x + m = t.f10.length → acc.length ≤ 2 * x →
    Ev (fun k => spec_Split.l18 k (i : Int) f (x : Int) t y (t.f10.getD i z86) acc) (setSl t (acc ++ restV t.f10 i x f), true) := by
  intro m
  induction m with
  | zero =>
    intro x y acc hx ha
    refine Ev.step ?_
    simp only [lenZ_eq, spec_Split.l18]
    refine Ev.ite_neg (by omega) ?_
    unfold restV
    rw [if_neg (by omega), List.drop_eq_nil_of_le (by omega), List.append_nil]
    exact Ev.bind (copy_ev t h acc (by omega)) (Ev.ret _)
  | succ m ih =>
    intro x y acc hx ha
    have hlt : x < t.f10.length := by omega
    refine Ev.step ?_
    simp only [lenZ_eq, spec_Split.l18, rd_T86, Int.toNat_natCast, wrap_succ hlt (by omega)]
    refine Ev.ite_pos (lt_in hlt) ?_
    by_cases e : x = i
    · subst e
      refine Ev.ite_pos rfl (Ev.ite_pos (by simp only [List.length_cons, List.length_nil]; omega) ?_)
      refine Ev.cast (ih (x + 1) _ (acc ++ twoV (t.f10.getD x z86) f) (by omega) (by simp only [twoV, List.length_append, List.length_cons, List.length_nil]; omega)) ?_
      unfold restV
      have e0 : (t.f10.take x).drop x = [] := List.drop_eq_nil_of_le (by rw [List.length_take]; omega)
      rw [if_neg (by omega), if_pos (Nat.le_refl _), e0, List.nil_append, List.append_assoc]
    · refine Ev.ite_neg (by omega) (Ev.ite_pos ge_0 (Ev.ite_pos (lt_in hlt) (Ev.ite_pos (by simp only [List.length_cons, List.length_nil]; omega) ?_)))
      refine Ev.cast (ih (x + 1) _ (acc ++ [t.f10.getD x z86]) (by omega) (by simp only [List.length_append, List.length_cons, List.length_nil]; omega)) ?_
      unfold restV
      by_cases g : x ≤ i
      · rw [if_pos (by omega), if_pos g, Ev.drop_getD (t.f10.take i) z86 x (by rw [List.length_take]; omega)]
        have : (t.f10.take i).getD x z86 = t.f10.getD x z86 := by
          rw [List.getD_eq_getElem?_getD, List.getD_eq_getElem?_getD, List.getElem?_take_of_lt (by omega)]
        rw [this]
        simp [List.append_assoc]
      · rw [if_neg (by omega), if_neg g, Ev.drop_getD t.f10 z86 x hlt]
        simp [List.append_assoc]
theorem specSplit_ev (t : S50) (h : Small t) (hnm : ∀ p ∈ t.f7, p.f0.size ≤ 9223372036854775807) (i f : Int) : Ev (fun k => spec_Split.f k t i f) (splitV t i f) := by
  unfold spec_Split.f splitV
  try simp only [lenZ_eq]
  refine Ev.bind (specSound t h hnm) ?_
  by_cases c : soundB t = true
  case neg => rw [if_neg c]; exact Ev.ite_neg c (Ev.ret _)
  rw [if_pos c]
  refine Ev.ite_pos c ?_
  have hsl := sound_len c
  simp only [l01In_some, Option.bind_some]
  rw [wrap_of (a := (t.f10.length : Int) - 1) (by omega) (by omega)]
  unfold splitL
  by_cases d : inB i 0 ((t.f10.length : Int) - 1) = true
  case neg =>
    rw [if_neg d, if_neg (by simp)]
    exact Ev.ite_neg d (Ev.ret _)
  rw [if_pos d]
  refine Ev.ite_pos d ?_
  have d' := in_iff.1 d
  obtain ⟨n, rfl⟩ : ∃ n : Nat, i = n := ⟨i.toNat, by omega⟩
  have hn : n < t.f10.length := by omega
  by_cases e : (t.f10.length : Int) = 16
  · rw [if_pos e, if_neg (by simp)]
    exact Ev.ite_pos (by omega) (Ev.ret _)
  rw [if_neg e]
  refine Ev.ite_neg (by omega) (Ev.ite_pos (by omega) (Ev.ite_pos (by omega) ?_))
  simp only [rd_T86, Int.toNat_natCast]
  change Ev (fun k => if inB f (leastV t) (wrap64 ((t.f10.getD n z86).f2 - leastV t)) = true then _ else _) _
  by_cases g : inB f (leastV t) (wrap64 ((t.f10.getD n z86).f2 - leastV t)) = true
  case neg =>
    rw [if_neg g, if_neg (by simp)]
    exact Ev.ite_neg g (Ev.ret _)
  rw [if_pos g, if_pos rfl]
  refine Ev.ite_pos g (Ev.cast (specSplit_l18 t h hsl.2 n hn f t.f10.length 0 _ [] (by omega) (by simp)) ?_)
  unfold restV splitAt
  rw [if_pos (Nat.zero_le _), List.drop_zero, List.nil_append]

/-! ### Even -/
theorem slots_split (t : S50) (ht : SpansIn t) : ∀ (sl : List S86) (i : Nat) (fin f : Int), 0 ≤ fin → slotsL t sl fin = true → i < sl.length → inB f (leastV t) (wrap64 ((sl.getD i z86).f2 - leastV t)) = true → slotsL t (splitAt sl i f) fin = true
  | [], i, fin, f, _, _, hi, _ => by simp at hi
  | s :: l, 0, fin, f, h0, h, _, hf => by
    have hp := ht.pad; have hg := ht.guard; have hm := ht.major
    have e1 : leastV t = t.f4 + t.f5 + 1 := by unfold leastV; rw [wrap_of (a := t.f4 + t.f5) (by omega) (by omega), wrap_of (by omega) (by omega)]
    simp only [slotsL, Bool.and_eq_true, slotAtB, decide_eq_true_eq] at h
    obtain ⟨h1, ⟨h2, h3, h4⟩, h5⟩ := h
    have hs : (s :: l).getD 0 z86 = s := rfl
    rw [hs, in_iff, e1, wrap_of (by omega) (by omega)] at hf
    simp only [splitAt, List.take_zero, List.nil_append, hs, twoV, List.cons_append, List.drop_succ_cons, List.drop_zero, slotsL, Bool.and_eq_true, slotAtB, decide_eq_true_eq]
    have w1 : wrap64 (s.f1 + f) = s.f1 + f := wrap_of (by omega) (by omega)
    have w2 : wrap64 (s.f2 - f) = s.f2 - f := wrap_of (by omega) (by omega)
    refine ⟨h1, ⟨h2, ?_, ?_⟩, h1, ⟨?_, ?_, ?_⟩, ?_⟩
    · show _ ≤ f; omega
    · show s.f1 + f ≤ _; omega
    · show s.f1 + f ≤ wrap64 (s.f1 + f); omega
    · show _ ≤ wrap64 (s.f2 - f); omega
    · show wrap64 (s.f1 + f) + wrap64 (s.f2 - f) ≤ _; omega
    · show slotsL t l (wrap64 (s.f1 + f) + wrap64 (s.f2 - f)) = true
      rw [w1, w2, show s.f1 + f + (s.f2 - f) = s.f1 + s.f2 by omega]
      exact h5
  | s :: l, i + 1, fin, f, h0, h, hi, hf => by
    have hp := ht.pad; have hg := ht.guard
    have hs : (s :: l).getD (i + 1) z86 = l.getD i z86 := by simp [List.getD_eq_getElem?_getD]
    rw [hs] at hf
    simp only [slotsL, Bool.and_eq_true] at h
    obtain ⟨h1, h2, h3⟩ := h
    have h2' := of_decide_eq_true h2
    have ih := slots_split t ht l i (s.f1 + s.f2) f (by omega) h3 (by simpa using hi) hf
    have e : splitAt (s :: l) (i + 1) f = s :: splitAt l i f := by
      simp only [splitAt, hs, List.take_succ_cons, List.cons_append, List.drop_succ_cons]
    rw [e]
    simp only [slotsL, Bool.and_eq_true]
    exact ⟨h1, h2, ih⟩
theorem slotsL_set (t : S50) (x : List S86) : ∀ (l : List S86) (fin : Int), slotsL (setSl t x) l fin = slotsL t l fin
  | [], _ => rfl
  | s :: l, fin => by
    simp only [slotsL, slotsL_set t x l]
    rfl
theorem sound_split {t : S50} (hs : soundB t = true) (i f : Int) (h : (splitL t t.f10 i f).2 = true) : soundB (setSl t (splitL t t.f10 i f).1) = true := by
  have hl := sound_len hs
  unfold soundB at hs
  simp only [Bool.and_eq_true] at hs
  obtain ⟨h1, h2, h3, h4⟩ := hs
  have ht := (head_in h1).2.2
  unfold soundB
  simp only [Bool.and_eq_true]
  refine ⟨h1, h2, h3, ?_⟩
  unfold slotsB at h4 ⊢
  simp only [Bool.and_eq_true] at h4 ⊢
  unfold splitL at h ⊢
  split at h
  case isFalse => cases h
  rename_i c1
  rw [if_pos c1]
  split at h
  · cases h
  rename_i c2
  rw [if_neg c2]
  split at h
  case isFalse => cases h
  rename_i c3
  rw [if_pos c3]
  have c1' := in_iff.1 c1
  refine ⟨by rw [slotsL_set]; exact slots_split t ht t.f10 i.toNat 0 f (Int.le_refl 0) h4.1 (by omega) c3, ?_⟩
  show inB ((splitAt t.f10 i.toNat f).length : Int) 1 16 = true
  rw [splitAt_len (by omega), in_iff]
  omega

def evenL (t : S50) (p cut : Int) : Nat → Nat → List S86 → List S86
  | 0, _, l => l
  | n + 1, i, l => if i < l.length then if (l.getD i z86).f0 = p then if (splitL t l i cut).2 = true then evenL t p cut n (i + 1) (splitL t l i cut).1 else evenL t p cut n (i + 1) l else evenL t p cut n (i + 1) l else l
def evenV (t : S50) (p cut : Int) : S50 × Bool :=
  if soundB t = true then if inB p 0 ((t.f7.length : Int) - 1) = true then (setSl t (evenL t p cut 16 0 t.f10), true) else (zeroT, false) else (zeroT, false)
theorem evenL_sound (t : S50) (p cut : Int) : ∀ (n i : Nat) (l : List S86), soundB (setSl t l) = true → soundB (setSl t (evenL t p cut n i l)) = true
  | 0, i, l, h => h
  | n + 1, i, l, h => by
    unfold evenL
    split
    · split
      · split
        · rename_i hs
          exact evenL_sound t p cut n (i + 1) _ (sound_split h i cut hs)
        · exact evenL_sound t p cut n (i + 1) l h
      · exact evenL_sound t p cut n (i + 1) l h
    · exact h
theorem evenV_small {t : S50} (h : Small t) (p cut : Int) : Small (evenV t p cut).1 := by
  unfold evenV
  split
  · rename_i hs
    split
    · exact setSl_small h (by have := (sound_len (evenL_sound t p cut 16 0 t.f10 hs)).2; have e : (setSl t (evenL t p cut 16 0 t.f10)).f10 = evenL t p cut 16 0 t.f10 := rfl; rw [e] at this; omega)
    · exact zeroT_small
  · exact zeroT_small

theorem implEven_l10 (t : S50) (h : Small t) (p cut : Int) : ∀ (n i : Nat) (y : S50) (l : List S86), 16 ≤ n + i → soundB (setSl t l) = true → Ev (fun k => impl_Even.l10 k p cut (i : Int) t y l) (setSl t (evenL t p cut n i l), true)
  | n, i, y, l, hn, hs => by
    have hl : l.length ≤ 16 := (sound_len hs).2
    by_cases c : i < l.length
    case neg =>
      have e : evenL t p cut n i l = l := by cases n with | zero => rfl | succ n => unfold evenL; rw [if_neg c]
      rw [e]
      refine Ev.step ?_
      simp only [lenZ_eq, impl_Even.l10]
      exact Ev.ite_neg (by omega) (Ev.bind (withSlots_ev t h l (by omega)) (Ev.ret _))
    obtain ⟨n, rfl⟩ : ∃ m, n = m + 1 := ⟨n - 1, by omega⟩
    refine Ev.step ?_
    simp only [lenZ_eq, impl_Even.l10, rd_T86, Int.toNat_natCast, implSplit_some t l (by omega), Option.bind_some, wrap_succ c (by omega), evenL]
    rw [if_pos c]
    refine Ev.ite_pos (lt_in c) (Ev.ite_pos ge_0 (Ev.ite_pos (lt_in c) ?_))
    by_cases d : (l.getD i z86).f0 = p
    case neg =>
      rw [if_neg d]
      exact Ev.ite_neg d (implEven_l10 t h p cut n (i + 1) _ l (by omega) hs)
    rw [if_pos d]
    refine Ev.ite_pos d ?_
    by_cases e : (splitL t l (i : Int) cut).2 = true
    · rw [if_pos e]
      exact Ev.ite_pos e (implEven_l10 t h p cut n (i + 1) _ _ (by omega) (sound_split hs i cut e))
    · rw [if_neg e]
      exact Ev.ite_neg e (implEven_l10 t h p cut n (i + 1) _ l (by omega) hs)
theorem implEven_ev (t : S50) (h : Small t) (hnm : ∀ p ∈ t.f7, p.f0.size ≤ 9223372036854775807) (p cut : Int) : Ev (fun k => impl_Even.f k t p cut) (evenV t p cut) := by
  unfold impl_Even.f evenV
  try simp only [lenZ_eq]
  refine Ev.bind (implSound t h hnm) ?_
  by_cases c : soundB t = true
  case neg => rw [if_neg c]; exact Ev.ite_neg c (Ev.ret _)
  rw [if_pos c]
  refine Ev.ite_pos c ?_
  have hP := h.parts
  simp only [within_some, Option.bind_some, cloneS _ h.slots]
  rw [wrap_of (a := (t.f7.length : Int) - 1) (by omega) (by omega)]
  by_cases d : inB p 0 ((t.f7.length : Int) - 1) = true
  case neg => rw [if_neg d]; exact Ev.ite_neg d (Ev.ret _)
  rw [if_pos d]
  exact Ev.ite_pos d (implEven_l10 t h p cut 16 0 _ _ (by omega) c)

theorem specEven_l10 (t : S50) (h : Small t) (hnm : ∀ p ∈ t.f7, p.f0.size ≤ 9223372036854775807) (p cut : Int) : ∀ (n i : Nat) (y : S50) (l : List S86), 16 ≤ n + i → soundB (setSl t l) = true → Ev (fun k => spec_Even.l10 k p cut (i : Int) y (setSl t l)) (setSl t (evenL t p cut n i l), true)
  | n, i, y, l, hn, hs => by
    have hl : l.length ≤ 16 := (sound_len hs).2
    have hf : (setSl t l).f10 = l := rfl
    by_cases c : i < l.length
    case neg =>
      have e : evenL t p cut n i l = l := by cases n with | zero => rfl | succ n => unfold evenL; rw [if_neg c]
      rw [e]
      refine Ev.step ?_
      simp only [lenZ_eq, spec_Even.l10, hf]
      exact Ev.ite_neg (by omega) (Ev.ret _)
    obtain ⟨n, rfl⟩ : ∃ m, n = m + 1 := ⟨n - 1, by omega⟩
    refine Ev.step ?_
    simp only [lenZ_eq, spec_Even.l10, hf, rd_T86, Int.toNat_natCast, wrap_succ c (by omega), evenL]
    rw [if_pos c]
    refine Ev.ite_pos (lt_in c) (Ev.ite_pos ge_0 (Ev.ite_pos (lt_in c) ?_))
    by_cases d : (l.getD i z86).f0 = p
    case neg =>
      rw [if_neg d]
      exact Ev.ite_neg d (specEven_l10 t h hnm p cut n (i + 1) _ l (by omega) hs)
    rw [if_pos d]
    refine Ev.ite_pos d (Ev.bind (specSplit_ev (setSl t l) (setSl_small h (by omega)) hnm i cut) ?_)
    have hL : splitL (setSl t l) (setSl t l).f10 (i : Int) cut = splitL t l (i : Int) cut := rfl
    unfold splitV
    rw [if_pos hs, hL]
    by_cases e : (splitL t l (i : Int) cut).2 = true
    · rw [if_pos e, if_pos e]
      exact Ev.ite_pos rfl (specEven_l10 t h hnm p cut n (i + 1) _ _ (by omega) (sound_split hs i cut e))
    · rw [if_neg e, if_neg e]
      exact Ev.ite_neg (by simp) (specEven_l10 t h hnm p cut n (i + 1) _ l (by omega) hs)
theorem specEven_ev (t : S50) (h : Small t) (hnm : ∀ p ∈ t.f7, p.f0.size ≤ 9223372036854775807) (p cut : Int) : Ev (fun k => spec_Even.f k t p cut) (evenV t p cut) := by
  unfold spec_Even.f evenV
  try simp only [lenZ_eq]
  refine Ev.bind (specSound t h hnm) ?_
  by_cases c : soundB t = true
  case neg => rw [if_neg c]; exact Ev.ite_neg c (Ev.ret _)
  rw [if_pos c]
  refine Ev.ite_pos c ?_
  have hP := h.parts
  simp only [l01In_some, Option.bind_some]
  rw [wrap_of (a := (t.f7.length : Int) - 1) (by omega) (by omega)]
  by_cases d : inB p 0 ((t.f7.length : Int) - 1) = true
  case neg => rw [if_neg d]; exact Ev.ite_neg d (Ev.ret _)
  rw [if_pos d]
  exact Ev.ite_pos d (Ev.bind (copy_ev t h t.f10 h.slots) (specEven_l10 t h hnm p cut 16 0 _ t.f10 (by omega) c))
end Go.Proofs.Ytgnhojiogkeepaa.PSp
