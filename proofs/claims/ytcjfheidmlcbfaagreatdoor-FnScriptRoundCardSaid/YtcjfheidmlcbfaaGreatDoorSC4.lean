/- Plain Lean over the printed functions: names, windows, partitions, as the reference asks them. -/
import Derived.Test.YtcjfheidmlcbfaaGreatDoorSC3
set_option linter.unusedVariables false
set_option linter.unusedSimpArgs false
namespace Go.Proofs.YtcjfheidmlcbfaaGreatDoor.PSr
open Go Go.RowKit Go.Proofs.YtcjfheidmlcbfaaGreatDoor.V Go.Proofs.YtcjfheidmlcbfaaGreatDoor.C

/-! ### Names -/
theorem bt_range (s : ByteArray) (i : Int) : 0 ≤ bt s i ∧ bt s i ≤ 255 := by
  unfold bt
  split
  · rename_i h
    have := UInt8.toNat_lt (s[i.toNat]'h)
    omega
  · omega
def lowB (s : ByteArray) (i : Nat) : Bool := decide (97 ≤ bt s (i : Int) ∧ bt s (i : Int) ≤ 122)
def labelB (s : ByteArray) : Bool := (List.range s.size).all (lowB s) && inB (s.size : Int) 1 12
theorem implLabel (s : ByteArray) (hs : s.size ≤ 9223372036854775807) : Ev (fun k => impl_isLabel.f k s) (labelB s) := by
  unfold impl_isLabel.f
  try simp only [lenZ_eq]
  refine Ev.cast (Ev.allN s.size (lowB s) (fun k i => impl_isLabel.l4 k s (s.size : Int) i) (inB (s.size : Int) 1 12) (Ev.step ?_) (fun i hi v hv => Ev.step ?_) s.size 0 (by omega)) rfl
  · simp only [lenZ_eq, impl_isLabel.l4, within_some, Option.bind_some]
    exact Ev.ite_neg (by omega) (Ev.ret _)
  · simp only [lenZ_eq, impl_isLabel.l4, wrap_succ hi hs]
    refine Ev.ite_pos (lt_in hi) (Ev.ite_pos ge_0 (Ev.ite_pos (lt_in hi) ?_))
    by_cases c1 : bt s (i : Int) < 97
    · exact Ev.ite_pos c1 (Ev.cast (Ev.ret false) (by rw [lowB, decide_eq_false (by omega)]; rfl))
    · refine Ev.ite_neg c1 (Ev.ite_pos ge_0 (Ev.ite_pos (lt_in hi) ?_))
      by_cases c2 : bt s (i : Int) > 122
      · exact Ev.ite_pos c2 (Ev.cast (Ev.ret false) (by rw [lowB, decide_eq_false (by omega)]; rfl))
      · exact Ev.ite_neg c2 (Ev.cast hv (by rw [lowB, decide_eq_true (by omega)]; rfl))
theorem specLabel_long (s : ByteArray) (hs : s.size ≤ 9223372036854775807) (h12 : 12 < s.size) : ∀ (m i : Nat), i + m = 13 → Ev (fun k => spec_LabelOk.l4 k s (i : Int)) false
  | 0, i, h => by
    refine Ev.step ?_
    simp only [lenZ_eq, spec_LabelOk.l4, l01In_some, Option.bind_some]
    have hf : inB (s.size : Int) 1 12 = false := by simp [inB]; omega
    rw [hf]
    exact Ev.ite_both (fun _ => Ev.ite_neg (by omega) (Ev.ret _)) (fun _ => Ev.ret _)
  | m + 1, i, h => by
    have hi : i < s.size := by omega
    refine Ev.step ?_
    simp only [lenZ_eq, spec_LabelOk.l4, l01In_some, Option.bind_some, wrap_succ hi hs]
    exact Ev.ite_pos (lt_in hi) (Ev.ite_pos (by omega) (Ev.ite_pos ge_0 (Ev.ite_pos (lt_in hi) (Ev.ite_both (fun _ => specLabel_long s hs h12 m (i + 1) (by omega)) (fun _ => Ev.ret _)))))
theorem specLabel (s : ByteArray) (hs : s.size ≤ 9223372036854775807) : Ev (fun k => spec_LabelOk.f k s) (labelB s) := by
  unfold spec_LabelOk.f
  try simp only [lenZ_eq]
  by_cases h12 : 12 < s.size
  · refine Ev.cast (specLabel_long s hs h12 13 0 (by omega)) ?_
    have : inB (s.size : Int) 1 12 = false := by simp [inB]; omega
    rw [labelB, this, Bool.and_false]
  · refine Ev.cast (Ev.allN s.size (lowB s) (fun k i => spec_LabelOk.l4 k s i) (inB (s.size : Int) 1 12) (Ev.step ?_) (fun i hi v hv => Ev.step ?_) s.size 0 (by omega)) rfl
    · simp only [lenZ_eq, spec_LabelOk.l4, l01In_some, Option.bind_some]
      exact Ev.ite_neg (by omega) (Ev.ret _)
    · have hb := bt_range s (i : Int)
      simp only [lenZ_eq, spec_LabelOk.l4, l01In_some, Option.bind_some, wrap_succ hi hs]
      rw [wrap_of (a := bt s (i : Int)) (by omega) (by omega)]
      exact Ev.ite_pos (lt_in hi) (Ev.ite_pos (by omega) (Ev.ite_pos ge_0 (Ev.ite_pos (lt_in hi) (Ev.and_true fun _ => hv))))
def nameB (s : ByteArray) : Bool := labelB s && decide ((s.size : Int) ≤ 8)
theorem implName (s : ByteArray) (hs : s.size ≤ 9223372036854775807) : Ev (fun k => impl_isName.f k s) (nameB s) := by
  unfold impl_isName.f nameB
  try simp only [lenZ_eq]
  exact Ev.bind (implLabel s hs) (Ev.and_true fun _ => Ev.ret _)
theorem specName (s : ByteArray) (hs : s.size ≤ 9223372036854775807) : Ev (fun k => spec_NameOk.f k s) (nameB s) := by
  unfold spec_NameOk.f nameB
  try simp only [lenZ_eq]
  rw [Bool.and_comm]
  exact Ev.and_prop fun _ => Ev.bind (specLabel s hs) (Ev.ret _)

/-! ### Policies, windows -/
def policyB (p : S68) : Bool := if p.f0 = 1 then inB p.f1 0 100 else if p.f0 = 0 then decide (p.f1 = 0) else if p.f0 = 2 then decide (p.f1 = 0) else false
theorem implPolicy (p : S68) : impl_isPolicy.f p = some (policyB p) := by
  unfold impl_isPolicy.f policyB
  try simp only [lenZ_eq]
  simp only [within_some, Option.bind_some]
  repeat' split
  all_goals rfl
theorem specPolicy (p : S68) : spec_PolicyOk.f p = some (policyB p) := implPolicy p
def windowB (w : S66) : Bool := decide (0 ≤ w.f0 ∧ 4 ≤ w.f1 ∧ w.f0 + w.f1 ≤ 2048 ∧ w.f0.tmod 4 = 0 ∧ w.f1.tmod 4 = 0 ∧ 1 ≤ w.f2 ∧ w.f2 ≤ 7)
theorem window_in {w : S66} : windowB w = true ↔ (0 ≤ w.f0 ∧ 4 ≤ w.f1 ∧ w.f0 + w.f1 ≤ 2048 ∧ w.f0.tmod 4 = 0 ∧ w.f1.tmod 4 = 0 ∧ 1 ≤ w.f2 ∧ w.f2 ≤ 7) := by
  unfold windowB; rw [decide_eq_true_eq]
theorem bool_some {b : Bool} {p : Prop} [Decidable p] (h : b = true ↔ p) : some b = some (decide p) := congrArg some (by rw [Bool.eq_iff_iff, h, decide_eq_true_eq])
theorem no_some {p : Prop} [Decidable p] (h : ¬ p) : some false = some (decide p) := by rw [decide_eq_false h]
theorem implWindow (w : S66) : impl_isWindow.f w = some (windowB w) := by
  unfold impl_isWindow.f windowB
  try simp only [lenZ_eq]
  generalize w.f0 = a
  generalize w.f1 = b
  generalize w.f2 = c
  simp only [within_some, Option.bind_some]
  by_cases c1 : inB b 4 2048 = true
  · have c1' := in_iff.1 c1
    rw [if_pos c1, wrap_of (a := 2048 - b) (by omega) (by omega)]
    repeat' split
    all_goals simp only [in_iff] at *
    all_goals first
      | (refine bool_some ?_; rw [in_iff]; omega)
      | (refine no_some ?_; omega)
  · rw [if_neg c1]
    rw [in_iff] at c1
    refine no_some ?_
    omega
theorem specWindow (w : S66) : spec_WindowOk.f w = some (windowB w) := by
  unfold spec_WindowOk.f windowB
  try simp only [lenZ_eq]
  generalize w.f0 = a
  generalize w.f1 = b
  generalize w.f2 = c
  simp only [l01In_some, Option.bind_some]
  by_cases c1 : inB a 0 2048 = true
  · have c1' := in_iff.1 c1
    rw [if_pos c1]
    by_cases c2 : inB b 4 2048 = true
    · have c2' := in_iff.1 c2
      rw [if_pos c2, wrap_of (a := a + b) (by omega) (by omega)]
      repeat' split
      all_goals first
        | (refine bool_some ?_; rw [in_iff]; omega)
        | (refine no_some ?_; omega)
    · rw [if_neg c2]
      rw [in_iff] at c2
      refine no_some ?_
      omega
  · rw [if_neg c1]
    rw [in_iff] at c1
    refine no_some ?_
    omega
def apartB (x y : S66) : Bool := decide (wrap64 (x.f0 + x.f1) ≤ y.f0 ∨ wrap64 (y.f0 + y.f1) ≤ x.f0)
theorem apart_some (x y : S66) : impl_areApart.f x y = some (apartB x y) := by
  unfold impl_areApart.f apartB
  try simp only [lenZ_eq]
  split
  · rw [decide_eq_true (.inl (by assumption))]
  · exact bool_some (by rw [decide_eq_true_eq]; omega)
def hasB (w : S66) (a : Int) : Bool := decide (w.f0 ≤ a ∧ a < wrap64 (w.f0 + w.f1))
theorem has_some (w : S66) (a : Int) : spec_l07Has.f w a = some (hasB w a) := by
  unfold spec_l07Has.f hasB
  try simp only [lenZ_eq]
  split
  · exact bool_some (by rw [decide_eq_true_eq]; omega)
  · exact no_some (by omega)

/-! ### A partition, as the reference asks it -/
def okW (mem : Int) (w : S66) : Bool := windowB w && !decide (wrap64 (w.f0 + w.f1) > mem)
def hasP (p : S71) (w : S66) : Bool := hasB w p.f1 && decide (wrap64 (w.f2.tdiv 4) = 1)
def partokV (mem : Int) (p : S71) (l : List S66) (ins : Bool) : Bool := l.all (okW mem) && ((ins || l.any (hasP p)) && decide (p.f1.tmod 4 = 0))
theorem partok_l (mem : Int) (p : S71) (hl : p.f3.length ≤ 4) : Ev (fun k => spec_l13PartOk.l10 k mem false 0 p) (partokV mem p p.f3 false) := by
  have := Ev.list p.f3 z66 (partokV mem p) (fun _ _ => True) (fun k i s => spec_l13PartOk.l10 k mem s i p) (fun s _ => Ev.step (by
    simp only [lenZ_eq, spec_l13PartOk.l10]
    refine Ev.ite_neg (by omega) ?_
    cases s
    · exact Ev.ite_neg (by simp) (Ev.ret _)
    · exact Ev.ite_pos rfl (Ev.cast (Ev.ret _) (by simp [partokV])))) (fun i hi s _ ih => Ev.step (by
    have hr : rd_T66 p.f3 (i : Int) = p.f3.getD i z66 := rfl
    simp only [lenZ_eq, spec_l13PartOk.l10, hr, specWindow, has_some, Option.bind_some, wrap_succ hi (by omega)]
    generalize p.f3.getD i z66 = x
    generalize p.f3.drop (i + 1) = l at ih
    refine Ev.ite_pos (lt_in hi) (Ev.ite_pos ge_0 (Ev.ite_pos (lt_in hi) ?_))
    have e : partokV mem p (x :: l) s = (windowB x && (!decide (wrap64 (x.f0 + x.f1) > mem) && partokV mem p l (s || hasP p x))) := by
      simp only [partokV, okW, List.all_cons, List.any_cons, Bool.and_assoc, Bool.or_assoc]
    rw [e]
    refine Ev.and_true fun hw => Ev.or_prop fun hm => ?_
    by_cases c3 : hasB x p.f1 = true
    · refine Ev.ite_pos c3 ?_
      by_cases c4 : wrap64 (x.f2.tdiv 4) = 1
      · exact Ev.ite_pos c4 (Ev.cast (ih true trivial) (by simp [hasP, c3, c4]))
      · exact Ev.ite_neg c4 (Ev.cast (ih s trivial) (by simp [hasP, c4]))
    · exact Ev.ite_neg c3 (Ev.cast (ih s trivial) (by simp [hasP, c3])))) p.f3.length 0 (by omega) false trivial
  simpa using this
def partOkB (mem : Int) (p : S71) : Bool := nameB p.f0 && (policyB p.f2 && (inB (p.f3.length : Int) 1 4 && partokV mem p p.f3 false))
theorem partok_ev (mem : Int) (p : S71) (hs : p.f0.size ≤ 9223372036854775807) : Ev (fun k => spec_l13PartOk.f k p mem) (partOkB mem p) := by
  unfold spec_l13PartOk.f partOkB
  try simp only [lenZ_eq]
  refine Ev.bind (specName p.f0 hs) (Ev.and_true fun _ => ?_)
  simp only [specPolicy, l01In_some, Option.bind_some]
  refine Ev.and_true fun _ => Ev.and_true fun h => partok_l mem p ?_
  have := in_iff.1 h
  omega

/-! ### The partitions, as the reference asks them -/
theorem take_getD {α : Type} (z : α) (l : List α) {i j : Nat} (h : j < i) : (l.take i).getD j z = l.getD j z := by
  rw [List.getD_eq_getElem?_getD, List.getD_eq_getElem?_getD, List.getElem?_take_of_lt h]
def namesNe (P : List S71) (i : Nat) : Bool := (P.take i).all (fun q => !decide (q.f0 = (P.getD i z71).f0))
theorem parts_l18 (t : S33) (i : Nat) (hi : i < t.f7.length) (hl : t.f7.length ≤ 6) (v : Bool) (hv : Ev (fun k => spec_l13Parts.l8 k ((i + 1 : Nat) : Int) t) v) : Ev (fun k => spec_l13Parts.l18 k (i : Int) 0 t) (namesNe t.f7 i && v) := by
  have hlen : (t.f7.take i).length = i := by simp; omega
  refine Ev.all (t.f7.take i) z71 _ (fun k j => spec_l13Parts.l18 k (i : Int) j t) v (fun _ => Ev.step ?_) (fun j hj v hv => Ev.step ?_) (fun j hj hp => Ev.step ?_)
  · rw [hlen]
    simp only [lenZ_eq, spec_l13Parts.l18, wrap_succ hi (by omega)]
    exact Ev.ite_neg (by omega) hv
  all_goals
    rw [hlen] at hj
    have hr : rd_T71 t.f7 (i : Int) = t.f7.getD i z71 := rfl
    have hr2 : rd_T71 t.f7 (j : Int) = t.f7.getD j z71 := rfl
    simp only [lenZ_eq, spec_l13Parts.l18, hr, hr2, wrap_succ hj (by omega), take_getD _ _ hj] at *
  · exact Ev.ite_pos (by omega) (Ev.ite_pos ge_0 (Ev.ite_pos (by omega) (Ev.ite_pos ge_0 (Ev.ite_pos (by omega) (Ev.or_prop fun _ => hv)))))
  · exact Ev.ite_pos (by omega) (Ev.ite_pos ge_0 (Ev.ite_pos (by omega) (Ev.ite_pos ge_0 (Ev.ite_pos (by omega) (Ev.ite_pos (by simpa using hp) (Ev.ret _))))))
theorem parts_l36 (all : List S66) (hl : all.length ≤ 100) (i : Nat) (hi : i < all.length) (v : Bool) (hv : Ev (fun k => spec_l13Parts.l30 k ((i + 1 : Nat) : Int) all) v) : Ev (fun k => spec_l13Parts.l36 k (i : Int) 0 all) ((all.take i).all (fun v => apartB v (all.getD i z66)) && v) := by
  have hlen : (all.take i).length = i := by simp; omega
  have key : ∀ j, j < i → ∀ v, Ev (fun k => spec_l13Parts.l36 k (i : Int) ((j + 1 : Nat) : Int) all) v → Ev (fun k => spec_l13Parts.l36 k (i : Int) (j : Int) all) (apartB (all.getD j z66) (all.getD i z66) && v) := by
    intro j hj v hv
    have hr : rd_T66 all (i : Int) = all.getD i z66 := rfl
    have hr2 : rd_T66 all (j : Int) = all.getD j z66 := rfl
    refine Ev.step ?_
    simp only [lenZ_eq, spec_l13Parts.l36, hr, hr2, wrap_succ hj (by omega)]
    generalize all.getD i z66 = x
    generalize all.getD j z66 = y
    refine Ev.ite_pos (by omega) (Ev.ite_pos ge_0 (Ev.ite_pos (by omega) (Ev.ite_pos ge_0 (Ev.ite_pos (by omega) (Ev.ite_pos ge_0 (Ev.ite_pos (by omega) ?_))))))
    by_cases c1 : y.f0 < wrap64 (x.f0 + x.f1)
    · refine Ev.ite_pos c1 (Ev.ite_pos ge_0 (Ev.ite_pos (by omega) (Ev.ite_pos ge_0 (Ev.ite_pos (by omega) (Ev.ite_pos ge_0 (Ev.ite_pos (by omega) ?_))))))
      by_cases c2 : x.f0 < wrap64 (y.f0 + y.f1)
      · exact Ev.ite_pos c2 (Ev.cast (Ev.ret false) (by rw [apartB, decide_eq_false (by omega)]; rfl))
      · exact Ev.ite_neg c2 (Ev.cast hv (by rw [apartB, decide_eq_true (by omega)]; rfl))
    · exact Ev.ite_neg c1 (Ev.cast hv (by rw [apartB, decide_eq_true (by omega)]; rfl))
  have stop : ∀ j, j < i → apartB (all.getD j z66) (all.getD i z66) = false → Ev (fun k => spec_l13Parts.l36 k (i : Int) (j : Int) all) false := by
    intro j hj hp
    have hr : rd_T66 all (i : Int) = all.getD i z66 := rfl
    have hr2 : rd_T66 all (j : Int) = all.getD j z66 := rfl
    refine Ev.step ?_
    simp only [lenZ_eq, spec_l13Parts.l36, hr, hr2]
    generalize all.getD i z66 = x at hp ⊢
    generalize all.getD j z66 = y at hp ⊢
    have h2 : ¬ (wrap64 (y.f0 + y.f1) ≤ x.f0 ∨ wrap64 (x.f0 + x.f1) ≤ y.f0) := of_decide_eq_false hp
    exact Ev.ite_pos (by omega) (Ev.ite_pos ge_0 (Ev.ite_pos (by omega) (Ev.ite_pos ge_0 (Ev.ite_pos (by omega) (Ev.ite_pos ge_0 (Ev.ite_pos (by omega) (Ev.ite_pos (by omega) (Ev.ite_pos ge_0 (Ev.ite_pos (by omega) (Ev.ite_pos ge_0 (Ev.ite_pos (by omega) (Ev.ite_pos ge_0 (Ev.ite_pos (by omega) (Ev.ite_pos (by omega) (Ev.ret _)))))))))))))))
  refine Ev.all (all.take i) z66 _ (fun k j => spec_l13Parts.l36 k (i : Int) j all) v (fun _ => Ev.step ?_) (fun j hj v hv => ?_) (fun j hj hp => ?_)
  · rw [hlen]
    simp only [lenZ_eq, spec_l13Parts.l36, wrap_succ hi (by omega)]
    exact Ev.ite_neg (by omega) hv
  · rw [hlen] at hj; rw [take_getD _ _ hj]; exact key j hj v hv
  · rw [hlen] at hj; rw [take_getD _ _ hj] at hp; exact stop j hj hp
def pairsFrom (all : List S66) : Nat → Nat → Bool
  | 0, _ => true
  | n + 1, i => (all.take i).all (fun v => apartB v (all.getD i z66)) && pairsFrom all n (i + 1)
theorem parts_l30 (all : List S66) (hl : all.length ≤ 100) : ∀ (n i : Nat), i + n = all.length → Ev (fun k => spec_l13Parts.l30 k (i : Int) all) (pairsFrom all n i)
  | 0, i, hi => by
    refine Ev.step ?_
    simp only [lenZ_eq, spec_l13Parts.l30]
    exact Ev.ite_neg (by omega) (Ev.ret _)
  | n + 1, i, hi => by
    refine Ev.step ?_
    simp only [lenZ_eq, spec_l13Parts.l30]
    exact Ev.ite_pos (by omega) (parts_l36 all hl i (by omega) _ (parts_l30 all hl n (i + 1) (by omega)))
theorem windows_ev (P : List S71) (hl : P.length ≤ 6) (hw : ∀ p ∈ P, p.f3.length ≤ 4) : Ev (fun k => spec_l13Windows.f k P) (P.flatMap (·.f3)) := by
  unfold spec_l13Windows.f
  try simp only [lenZ_eq]
  have := Ev.list P z71 (fun l acc => acc ++ l.flatMap (·.f3)) (fun i acc => acc.length ≤ 4 * i) (fun k i s => spec_l13Windows.l6 k P i s) (fun s _ => Ev.step (by
    simp only [lenZ_eq, spec_l13Windows.l6]
    exact Ev.ite_neg (by omega) (Ev.cast (Ev.ret _) (by simp)))) (fun i hi s hs ih => Ev.step (by
    have hr : rd_T71 P (i : Int) = P.getD i z71 := rfl
    have h4 := hw _ (getD_mem (z := z71) hi)
    simp only [lenZ_eq, spec_l13Windows.l6, hr, wrap_succ hi (by omega)]
    refine Ev.ite_pos (lt_in hi) (Ev.ite_pos ge_0 (Ev.ite_pos (lt_in hi) (Ev.ite_pos (by omega) (Ev.cast (ih _ (by rw [List.length_append]; omega)) ?_))))
    simp)) P.length 0 (by omega) [] (by simp)
  simpa using this
/-- What the reference asks of the partitions. -/
def partsFrom (mem : Int) (P : List S71) : Nat → Nat → Bool
  | 0, _ => true
  | n + 1, i => partOkB mem (P.getD i z71) && (namesNe P i && partsFrom mem P n (i + 1))
theorem flat_len : ∀ l : List S71, (∀ p ∈ l, p.f3.length ≤ 4) → (l.flatMap (·.f3)).length ≤ 4 * l.length
  | [], _ => by simp
  | x :: l, h => by
    have h1 := h x (by simp)
    have h2 := flat_len l (fun p hp => h p (by simp [hp]))
    rw [List.flatMap_cons, List.length_append, List.length_cons]
    omega
theorem parts_l8 (t : S33) (hl : t.f7.length ≤ 6) (hnm : ∀ p ∈ t.f7, p.f0.size ≤ 9223372036854775807) :
    ∀ (n i : Nat), i + n = t.f7.length → (∀ j, j < i → (t.f7.getD j z71).f3.length ≤ 4) → Ev (fun k => spec_l13Parts.l8 k (i : Int) t) (partsFrom t.f0 t.f7 n i && pairsFrom (t.f7.flatMap (·.f3)) (t.f7.flatMap (·.f3)).length 0)
  | 0, i, hi, hj => by
    have hw : ∀ p ∈ t.f7, p.f3.length ≤ 4 := by
      intro p hp
      obtain ⟨j, hlt, rfl⟩ := List.getElem_of_mem hp
      have := hj j (by omega)
      rwa [List.getD_eq_getElem?_getD, List.getElem?_eq_getElem hlt] at this
    have hlen := flat_len t.f7 hw
    refine Ev.step ?_
    simp only [lenZ_eq, spec_l13Parts.l8]
    exact Ev.ite_neg (by omega) (Ev.bind (windows_ev t.f7 hl hw) (Ev.cast (parts_l30 (t.f7.flatMap (·.f3)) (by omega) (t.f7.flatMap (·.f3)).length 0 (by omega)) (by rw [partsFrom, Bool.true_and])))
  | n + 1, i, hi, hj => by
    have hlt : i < t.f7.length := by omega
    have hr : rd_T71 t.f7 (i : Int) = t.f7.getD i z71 := rfl
    refine Ev.step ?_
    simp only [lenZ_eq, spec_l13Parts.l8, hr]
    refine Ev.ite_pos (lt_in hlt) (Ev.ite_pos ge_0 (Ev.ite_pos (lt_in hlt) (Ev.bind (partok_ev t.f0 _ (hnm _ (getD_mem hlt))) ?_)))
    rw [partsFrom, Bool.and_assoc, Bool.and_assoc]
    refine Ev.and_true fun c => ?_
    have h4 : (t.f7.getD i z71).f3.length ≤ 4 := by
      simp only [partOkB, Bool.and_eq_true, in_iff] at c
      omega
    refine parts_l18 t i hlt hl _ (parts_l8 t hl hnm n (i + 1) (by omega) fun j hj' => ?_)
    by_cases hji : j = i
    · rw [hji]; exact h4
    · exact hj j (by omega)
def specPartsB (t : S33) : Bool := inB (t.f7.length : Int) 1 6 && (partsFrom t.f0 t.f7 t.f7.length 0 && pairsFrom (t.f7.flatMap (·.f3)) (t.f7.flatMap (·.f3)).length 0)
theorem specParts (t : S33) (hnm : ∀ p ∈ t.f7, p.f0.size ≤ 9223372036854775807) : Ev (fun k => spec_l13Parts.f k t) (specPartsB t) := by
  unfold spec_l13Parts.f specPartsB
  try simp only [lenZ_eq]
  simp only [l01In_some, Option.bind_some]
  refine Ev.and_true fun h => ?_
  have h' := in_iff.1 h
  exact parts_l8 t (by omega) hnm t.f7.length 0 (by omega) (fun j hj => absurd hj (by omega))
end Go.Proofs.YtcjfheidmlcbfaaGreatDoor.PSr
