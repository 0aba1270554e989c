/- Plain Lean over the printed functions: tables in new memory with other slots (both ways). -/
import Derived.Test.YtfmbebgpbgcpeaaXC6
set_option linter.unusedVariables false
set_option linter.unusedSimpArgs false
set_option linter.unusedSectionVars false
namespace Go.Proofs.Ytfmbebgpbgcpeaa.PPl
open Go Go.RowKit Go.Proofs.Ytfmbebgpbgcpeaa.V Go.Proofs.Ytfmbebgpbgcpeaa.C

/-! ### Tables with other slots -/
def setSl (t : S33) (sl : List S61) : S33 := (t.f0, t.f1, t.f2, t.f3, t.f4, t.f5, t.f6, t.f7, t.f8, t.f9, sl)
theorem setSl_small {t : S33} (h : Small t) {sl : List S61} (hl : sl.length ≤ 1048576) : Small (setSl t sl) := ⟨h.parts, h.windows, h.devs, h.chans, hl⟩

theorem cloneP (l : List S101) (h : l.length ≤ 1048576) : slices_Clone_144.f l = some l := by
  unfold slices_Clone_144.f
  by_cases hl : l.length = 0
  · obtain rfl := List.eq_nil_of_length_eq_zero hl; simp [sameO]
  · rw [if_neg hl]; simp; omega
theorem cloneW (l : List S57) (h : l.length ≤ 1048576) : slices_Clone_145.f l = some l := by
  unfold slices_Clone_145.f
  by_cases hl : l.length = 0
  · obtain rfl := List.eq_nil_of_length_eq_zero hl; simp [sameO]
  · rw [if_neg hl]; simp; omega
theorem cloneI (l : List Int) (h : l.length ≤ 1048576) : slices_Clone_146.f l = some l := by
  unfold slices_Clone_146.f
  by_cases hl : l.length = 0
  · obtain rfl := List.eq_nil_of_length_eq_zero hl; simp [sameO]
  · rw [if_neg hl]; simp; omega
theorem cloneC (l : List S39) (h : l.length ≤ 1048576) : slices_Clone_147.f l = some l := by
  unfold slices_Clone_147.f
  by_cases hl : l.length = 0
  · obtain rfl := List.eq_nil_of_length_eq_zero hl; simp [sameO]
  · rw [if_neg hl]; simp; omega
theorem cloneS (l : List S61) (h : l.length ≤ 1048576) : slices_Clone_105.f l = some l := by
  unfold slices_Clone_105.f
  by_cases hl : l.length = 0
  · obtain rfl := List.eq_nil_of_length_eq_zero hl; simp [sameO]
  · rw [if_neg hl]; simp; omega

theorem set_self {α : Type} (l : List α) (i : Nat) (z : α) (h : i < l.length) : l.set i (l.getD i z) = l := by
  rw [List.getD_eq_getElem?_getD, List.getElem?_eq_getElem h]
  exact List.set_getElem_self h
theorem withSlots_ev (t : S33) (h : Small t) (sl : List S61) (hs : sl.length ≤ 1048576) : Ev (fun k => impl_withSlots.f k t sl) (setSl t sl) := by
  have key : ∀ (m i : Nat) (y : S33), i + m = t.f7.length → Ev (fun k => impl_withSlots.l6 k sl (t.f7.length : Int) (i : Int) t y (t.f7, i)) (setSl t sl) := by
    intro m
    induction m with
    | zero =>
      intro i y hi
      refine Ev.step ?_
      simp only [impl_withSlots.l6, cloneI _ h.devs, cloneC _ h.chans, cloneS _ hs, Option.bind_some]
      exact Ev.ite_neg (by omega) (Ev.ite_pos (by omega) (Ev.ret _))
    | succ m ih =>
      intro i y hi
      have hlt : i < t.f7.length := by omega
      have hmem := getD_mem (z := z101) hlt
      refine Ev.step ?_
      simp only [impl_withSlots.l6, rd_T101, Int.toNat_natCast, cloneW _ (h.windows _ hmem), Option.bind_some, wrap_succ hlt (by have := h.parts; omega)]
      refine Ev.ite_pos (lt_in hlt) (Ev.ite_pos ge_0 (Ev.ite_pos (lt_in hlt) (Ev.ite_pos (Nat.le_refl _) (Ev.ite_pos ge_0 (Ev.ite_pos (lt_in hlt) (Ev.ite_pos trivial ?_))))))
      have e : t.f7.set i (((t.f7.getD i z101).f0, (t.f7.getD i z101).f1, (t.f7.getD i z101).f2, (t.f7.getD i z101).f3) : S101) = t.f7 := set_self _ _ _ hlt
      rw [e]
      exact ih (i + 1) _ (by omega)
  unfold impl_withSlots.f
  simp only [cloneP _ h.parts, Option.bind_some]
  exact key t.f7.length 0 _ (by omega)
theorem copy_ev (t : S33) (h : Small t) (sl : List S61) (hs : sl.length ≤ 1048576) : Ev (fun k => spec_l23Copy.f k t sl) (setSl t sl) := by
  have key : ∀ (m i : Nat) (y : S33), i + m = t.f7.length → Ev (fun k => spec_l23Copy.l14 k (i : Int) t y ((t.f0, t.f1, t.f2, t.f3, t.f4, t.f5, t.f6, t.f7.take i, t.f8, t.f9, sl) : S33)) (setSl t sl) := by
    intro m
    induction m with
    | zero =>
      intro i y hi
      refine Ev.step ?_
      simp only [spec_l23Copy.l14]
      refine Ev.ite_neg (by omega) ?_
      rw [List.take_of_length_le (by omega)]
      exact Ev.ret _
    | succ m ih =>
      intro i y hi
      have hlt : i < t.f7.length := by omega
      have hp := h.parts
      have hmem := getD_mem (z := z101) hlt
      have hw := h.windows _ hmem
      have hrec := ih (i + 1) (y.f0, y.f1, y.f2, y.f3, y.f4, y.f5, y.f6, [], [], [], []) (by omega)
      have e : t.f7.take (i + 1) = t.f7.take i ++ [t.f7.getD i z101] := by
        rw [List.getD_eq_getElem?_getD, List.getElem?_eq_getElem hlt]
        exact List.take_succ_eq_append_getElem hlt
      rw [e] at hrec
      refine Ev.step ?_
      simp only [spec_l23Copy.l14, rd_T101, Int.toNat_natCast, wrap_succ hlt (by omega), List.nil_append, List.length_nil, Nat.zero_add, List.length_cons, List.length_take]
      exact Ev.ite_pos (lt_in hlt) (Ev.ite_pos ge_0 (Ev.ite_pos (lt_in hlt) (Ev.ite_pos ge_0 (Ev.ite_pos (lt_in hlt) (Ev.ite_pos (by omega) (Ev.ite_pos (by show (t.f7.take i).length + 1 < _; rw [List.length_take]; omega) hrec))))))
  have h1 := h.devs
  have h2 := h.chans
  unfold spec_l23Copy.f
  simp only [List.nil_append, List.length_nil, Nat.zero_add]
  exact Ev.ite_pos (by omega) (Ev.ite_pos (by omega) (Ev.ite_pos (by omega) (key t.f7.length 0 _ (by omega))))
end Go.Proofs.Ytfmbebgpbgcpeaa.PPl
