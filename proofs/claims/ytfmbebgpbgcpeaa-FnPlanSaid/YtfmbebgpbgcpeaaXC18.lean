/- Plain Lean over the printed functions: both Plan come to the same. -/
import Derived.Test.YtfmbebgpbgcpeaaXC17
set_option linter.unusedVariables false
set_option linter.unusedSimpArgs false
set_option linter.unusedSectionVars false
namespace Go.Proofs.Ytfmbebgpbgcpeaa.PPl
open Go Go.RowKit Go.Proofs.Ytfmbebgpbgcpeaa.V Go.Proofs.Ytfmbebgpbgcpeaa.C

def zeroT : S33 := (0, (0, 0, 0), 0, (0, 0, 0, 0, 0, 0, 0), 0, 0, 0, [], [], [], [])
def planL (t : S33) : List Int → Int → Int → List S61 → S33 × Bool
  | [], _, x, sl => if (sl.length : Int) = 0 then (zeroT, false) else if x > t.f6 then (zeroT, false) else (setSl t sl, true)
  | n :: r, i, x, sl => if n > 0 then planL t r (i + 1) (wrap64 (x + wrap64 (wrap64 (t.f4 + t.f5) + n))) (sl ++ [(i, x, wrap64 (wrap64 (t.f4 + t.f5) + n))]) else planL t r (i + 1) x sl
def planV (t : S33) (ns : List Int) : S33 × Bool :=
  if soundB t = true then if (ns.length : Int) = (t.f7.length : Int) then if (ns.any fun n => !inB n 0 5000) = true then (zeroT, false) else planL t ns 0 0 [] else (zeroT, false) else (zeroT, false)
theorem zeroT_small : Small zeroT := ⟨by decide, fun x hx => (by cases hx), by decide, by decide, by decide⟩
theorem planL_small {t : S33} (h : Small t) : ∀ (ns : List Int) (i x : Int) (sl : List S61), sl.length + ns.length ≤ 1048576 → Small (planL t ns i x sl).1
  | [], i, x, sl, hl => by
    simp only [planL]
    split
    · exact zeroT_small
    split
    · exact zeroT_small
    · exact setSl_small h (by simpa using hl)
  | n :: r, i, x, sl, hl => by
    simp only [List.length_cons] at hl
    simp only [planL]
    split
    · exact planL_small h r _ _ _ (by simp; omega)
    · exact planL_small h r _ _ _ (by omega)
theorem planV_small {t : S33} (h : Small t) (ns : List Int) (hn : ns.length ≤ 1048576) : Small (planV t ns).1 := by
  unfold planV
  split
  · split
    · split
      · exact zeroT_small
      · exact planL_small h ns _ _ _ (by simpa using hn)
    · exact zeroT_small
  · exact zeroT_small

theorem implPlan_ev (t : S33) (h : Small t) (hnm : ∀ p ∈ t.f7, p.f0.size ≤ 9223372036854775807) (ns : List Int) (hn : ns.length ≤ 1048576) : Ev (fun k => impl_Plan.f k t ns) (planV t ns) := by
  have key : ∀ (m i : Nat) (x : Int) (y : S33) (sl : List S61), i + m = ns.length → sl.length ≤ i → Ev (fun k => impl_Plan.l12 k x ns (ns.length : Int) (i : Int) t y sl) (planL t (ns.drop i) i x sl) := by
    intro m
    induction m with
    | zero =>
      intro i x y sl hi hs
      refine Ev.step ?_
      rw [List.drop_of_length_le (by omega)]
      simp only [impl_Plan.l12, planL]
      refine Ev.ite_neg (by omega) ?_
      by_cases c : (sl.length : Int) = 0
      · rw [if_pos c]; exact Ev.ite_pos c (Ev.ret _)
      rw [if_neg c]
      refine Ev.ite_neg c ?_
      by_cases d : x > t.f6
      · rw [if_pos d]; exact Ev.ite_pos d (Ev.ret _)
      rw [if_neg d]
      exact Ev.ite_neg d (Ev.bind (withSlots_ev t h sl (by omega)) (Ev.ret _))
    | succ m ih =>
      intro i x y sl hi hs
      have hlt : i < ns.length := by omega
      refine Ev.step ?_
      rw [Ev.drop_getD ns 0 i hlt]
      simp only [impl_Plan.l12, planL, rd, Int.toNat_natCast, wrap_succ hlt (by omega), List.length_cons, List.length_nil]
      refine Ev.ite_pos (lt_in hlt) (Ev.ite_pos ge_0 (Ev.ite_pos (lt_in hlt) ?_))
      by_cases c : ns.getD i 0 > 0
      · rw [if_pos c]
        exact Ev.ite_pos c (Ev.ite_pos (by omega) (ih (i + 1) _ _ _ (by omega) (by simp; omega)))
      · rw [if_neg c]
        exact Ev.ite_neg c (ih (i + 1) _ _ _ (by omega) (by omega))
  have hidx : Ev (fun k => slices_IndexFunc_143_84.f k ns) (idxOf (fun n => !inB n 0 5000) ns 0) := by
    unfold slices_IndexFunc_143_84.f
    refine Ev.idx ns 0 _ (fun k i => slices_IndexFunc_143_84.l4 k ns (ns.length : Int) i) (Ev.step ?_) (fun i hi hp => Ev.step ?_) (fun i hi hp v hv => Ev.step ?_)
    · simp only [slices_IndexFunc_143_84.l4]; exact Ev.ite_neg (by omega) (Ev.ret _)
    all_goals
      simp only [slices_IndexFunc_143_84.l4, impl_Plan_1.f, within_some, Option.bind_some, wrap_succ hi (by omega)]
      refine Ev.ite_pos (lt_in hi) (Ev.ite_pos ge_0 (Ev.ite_pos (lt_in hi) ?_))
    · exact Ev.ite_pos hp (Ev.ret _)
    · exact Ev.ite_neg (fun h => by rw [show (!inB (rd ns (i : Int)) 0 5000) = false from hp] at h; cases h) hv
  unfold impl_Plan.f planV
  refine Ev.bind (implSound t h hnm) ?_
  by_cases c : soundB t = true
  · rw [if_pos c]
    refine Ev.ite_pos c ?_
    by_cases d : (ns.length : Int) = (t.f7.length : Int)
    · rw [if_pos d]
      refine Ev.ite_pos d ?_
      have hc : Ev (fun k => slices_ContainsFunc_83_84.f k ns) (ns.any fun n => !inB n 0 5000) := by
        unfold slices_ContainsFunc_83_84.f
        refine Ev.bind hidx (Ev.cast (Ev.ret _) ?_)
        rw [Bool.eq_iff_iff, decide_eq_true_eq, idxOf_ge _ _ _ (Int.le_refl 0)]
      refine Ev.bind hc ?_
      by_cases e : (ns.any fun n => !inB n 0 5000) = true
      · rw [if_pos e]; exact Ev.ite_pos e (Ev.ret _)
      · rw [if_neg e]; exact Ev.ite_neg e (key ns.length 0 0 _ [] (by omega) (Nat.le_refl _))
    · rw [if_neg d]; exact Ev.ite_neg d (Ev.ret _)
  · rw [if_neg c]; exact Ev.ite_neg c (Ev.ret _)

theorem specPlan_ev (t : S33) (h : Small t) (hnm : ∀ p ∈ t.f7, p.f0.size ≤ 9223372036854775807) (ns : List Int) (hn : ns.length ≤ 1048576) : Ev (fun k => spec_Plan.f k t ns) (planV t ns) := by
  have key : ∀ (m i : Nat) (x : Int) (y : S33) (sl : List S61), i + m = ns.length → sl.length ≤ i → Ev (fun k => spec_Plan.l12 k ns x (i : Int) t y sl) (if ((ns.drop i).any fun n => !inB n 0 5000) = true then (zeroT, false) else planL t (ns.drop i) i x sl) := by
    intro m
    induction m with
    | zero =>
      intro i x y sl hi hs
      refine Ev.step ?_
      rw [List.drop_of_length_le (by omega)]
      rw [if_neg (by simp)]
      simp only [spec_Plan.l12, planL]
      refine Ev.ite_neg (by omega) ?_
      by_cases c : (sl.length : Int) = 0
      · rw [if_pos c]; exact Ev.ite_pos c (Ev.ret _)
      rw [if_neg c]
      refine Ev.ite_neg c ?_
      by_cases d : x > t.f6
      · rw [if_pos d]; exact Ev.ite_pos d (Ev.ret _)
      rw [if_neg d]
      exact Ev.ite_neg d (Ev.bind (copy_ev t h sl (by omega)) (Ev.ret _))
    | succ m ih =>
      intro i x y sl hi hs
      have hlt : i < ns.length := by omega
      refine Ev.step ?_
      rw [Ev.drop_getD ns 0 i hlt, List.any_cons]
      simp only [spec_Plan.l12, planL, rd, Int.toNat_natCast, l01In_some, Option.bind_some, wrap_succ hlt (by omega), List.length_cons, List.length_nil]
      refine Ev.ite_pos (lt_in hlt) (Ev.ite_pos ge_0 (Ev.ite_pos (lt_in hlt) ?_))
      cases hb : inB (ns.getD i 0) 0 5000
      · simp only [Bool.not_false, Bool.true_or, if_true]
        exact Ev.ite_neg (by simp) (Ev.ret _)
      · simp only [Bool.not_true, Bool.false_or]
        refine Ev.ite_pos trivial (Ev.ite_pos ge_0 (Ev.ite_pos (lt_in hlt) ?_))
        by_cases c : ns.getD i 0 > 0
        · rw [if_pos c]
          exact Ev.ite_pos c (Ev.ite_pos ge_0 (Ev.ite_pos (lt_in hlt) (Ev.ite_pos (by omega) (ih (i + 1) _ _ _ (by omega) (by simp; omega)))))
        · rw [if_neg c]
          exact Ev.ite_neg c (ih (i + 1) _ _ _ (by omega) (by omega))
  unfold spec_Plan.f planV
  refine Ev.bind (specSound t h hnm) ?_
  by_cases c : soundB t = true
  · rw [if_pos c]
    refine Ev.ite_pos c ?_
    by_cases d : (ns.length : Int) = (t.f7.length : Int)
    · rw [if_pos d]
      exact Ev.ite_pos d (key ns.length 0 0 _ [] (by omega) (Nat.le_refl _))
    · rw [if_neg d]; exact Ev.ite_neg d (Ev.ret _)
  · rw [if_neg c]; exact Ev.ite_neg c (Ev.ret _)

end Go.Proofs.Ytfmbebgpbgcpeaa.PPl
