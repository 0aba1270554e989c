/- Plain Lean over the printed functions: tables in new memory with other slots (both ways). -/
import Derived.Test.YtgnhojiogkeepaaC6
set_option linter.unusedVariables false
set_option linter.unusedSimpArgs false
set_option linter.unusedSectionVars false
namespace Go.Proofs.Ytgnhojiogkeepaa.PSp
open Go Go.RowKit Go.Proofs.Ytgnhojiogkeepaa.V Go.Proofs.Ytgnhojiogkeepaa.C

/-! ### Tables with other slots -/
def setSl (t : S50) (sl : List S86) : S50 := (t.f0, t.f1, t.f2, t.f3, t.f4, t.f5, t.f6, t.f7, t.f8, t.f9, sl)
theorem setSl_small {t : S50} (h : Small t) {sl : List S86} (hl : sl.length ≤ 1048576) : Small (setSl t sl) := ⟨h.parts, h.windows, h.devs, h.chans, hl⟩

theorem cloneP (l : List S75) (h : l.length ≤ 1048576) : slices_Clone_107.f l = some l := by
  unfold slices_Clone_107.f
  by_cases hl : l.length = 0
  · obtain rfl := List.eq_nil_of_length_eq_zero hl; simp [sameO]
  · rw [if_neg hl]; simp; omega
theorem cloneW (l : List S40) (h : l.length ≤ 1048576) : slices_Clone_108.f l = some l := by
  unfold slices_Clone_108.f
  by_cases hl : l.length = 0
  · obtain rfl := List.eq_nil_of_length_eq_zero hl; simp [sameO]
  · rw [if_neg hl]; simp; omega
theorem cloneI (l : List Int) (h : l.length ≤ 1048576) : slices_Clone_109.f l = some l := by
  unfold slices_Clone_109.f
  by_cases hl : l.length = 0
  · obtain rfl := List.eq_nil_of_length_eq_zero hl; simp [sameO]
  · rw [if_neg hl]; simp; omega
theorem cloneC (l : List S117) (h : l.length ≤ 1048576) : slices_Clone_110.f l = some l := by
  unfold slices_Clone_110.f
  by_cases hl : l.length = 0
  · obtain rfl := List.eq_nil_of_length_eq_zero hl; simp [sameO]
  · rw [if_neg hl]; simp; omega
theorem cloneS (l : List S86) (h : l.length ≤ 1048576) : slices_Clone_65.f l = some l := by
  unfold slices_Clone_65.f
  by_cases hl : l.length = 0
  · obtain rfl := List.eq_nil_of_length_eq_zero hl; simp [sameO]
  · rw [if_neg hl]; simp; omega

theorem set_self {α : Type} (l : List α) (i : Nat) (z : α) (h : i < l.length) : l.set i (l.getD i z) = l := by
  rw [List.getD_eq_getElem?_getD, List.getElem?_eq_getElem h]
  exact List.set_getElem_self h
theorem withSlots_ev (t : S50) (h : Small t) (sl : List S86) (hs : sl.length ≤ 1048576) : Ev (fun k => impl_withSlots.f k t sl) (setSl t sl) := by
  have key : ∀ (m i : Nat) (y : S50), i + m = t.f7.length → Ev (fun k => impl_withSlots.l6 k sl (t.f7.length : Int) (i : Int) t y (t.f7, i)) (setSl t sl) := by
    intro m
    induction m with
    | zero =>
      intro i y hi
      refine Ev.step ?_
      simp only [lenZ_eq, impl_withSlots.l6, cloneI _ h.devs, cloneC _ h.chans, cloneS _ hs, Option.bind_some]
      exact Ev.ite_neg (by omega) (Ev.ite_pos (by omega) (Ev.ret _))
    | succ m ih =>
      intro i y hi
      have hlt : i < t.f7.length := by omega
      have hmem := getD_mem (z := z75) hlt
      refine Ev.step ?_
      simp only [lenZ_eq, impl_withSlots.l6, rd_T75, Int.toNat_natCast, cloneW _ (h.windows _ hmem), Option.bind_some, wrap_succ hlt (by have := h.parts; omega)]
      refine Ev.ite_pos (lt_in hlt) (Ev.ite_pos ge_0 (Ev.ite_pos (lt_in hlt) (Ev.ite_pos (Nat.le_refl _) (Ev.ite_pos ge_0 (Ev.ite_pos (lt_in hlt) (Ev.ite_pos trivial ?_))))))
      have e : t.f7.set i (((t.f7.getD i z75).f0, (t.f7.getD i z75).f1, (t.f7.getD i z75).f2, (t.f7.getD i z75).f3) : S75) = t.f7 := set_self _ _ _ hlt
      rw [e]
      exact ih (i + 1) _ (by omega)
  unfold impl_withSlots.f
  try simp only [lenZ_eq]
  simp only [cloneP _ h.parts, Option.bind_some]
  exact key t.f7.length 0 _ (by omega)
theorem copy_ev (t : S50) (h : Small t) (sl : List S86) (hs : sl.length ≤ 1048576) : Ev (fun k => spec_l23Copy.f k t sl) (setSl t sl) := by
  have key : ∀ (m i : Nat) (y : S50), i + m = t.f7.length → Ev (fun k => spec_l23Copy.l14 k (i : Int) t y ((t.f0, t.f1, t.f2, t.f3, t.f4, t.f5, t.f6, t.f7.take i, t.f8, t.f9, sl) : S50)) (setSl t sl) := by
    intro m
    induction m with
    | zero =>
      intro i y hi
      refine Ev.step ?_
      simp only [lenZ_eq, spec_l23Copy.l14]
      refine Ev.ite_neg (by omega) ?_
      rw [List.take_of_length_le (by omega)]
      exact Ev.ret _
    | succ m ih =>
      intro i y hi
      have hlt : i < t.f7.length := by omega
      have hp := h.parts
      have hmem := getD_mem (z := z75) hlt
      have hw := h.windows _ hmem
      have hrec := ih (i + 1) (y.f0, y.f1, y.f2, y.f3, y.f4, y.f5, y.f6, [], [], [], []) (by omega)
      have e : t.f7.take (i + 1) = t.f7.take i ++ [t.f7.getD i z75] := by
        rw [List.getD_eq_getElem?_getD, List.getElem?_eq_getElem hlt]
        exact List.take_succ_eq_append_getElem hlt
      rw [e] at hrec
      refine Ev.step ?_
      simp only [lenZ_eq, spec_l23Copy.l14, rd_T75, Int.toNat_natCast, wrap_succ hlt (by omega), List.nil_append, List.length_nil, Nat.zero_add, List.length_cons, List.length_take]
      exact Ev.ite_pos (lt_in hlt) (Ev.ite_pos ge_0 (Ev.ite_pos (lt_in hlt) (Ev.ite_pos ge_0 (Ev.ite_pos (lt_in hlt) (Ev.ite_pos (by omega) (Ev.ite_pos (by show (t.f7.take i).length + 1 < _; rw [List.length_take]; omega) hrec))))))
  have h1 := h.devs
  have h2 := h.chans
  unfold spec_l23Copy.f
  try simp only [lenZ_eq]
  simp only [List.nil_append, List.length_nil, Nat.zero_add]
  exact Ev.ite_pos (by omega) (Ev.ite_pos (by omega) (Ev.ite_pos (by omega) (key t.f7.length 0 _ (by omega))))
end Go.Proofs.Ytgnhojiogkeepaa.PSp
