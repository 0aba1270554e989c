/- Plain Lean over the printed functions: the tables that a law draws. -/
import Derived.Test.YtfmbebgpbgcpeaaD2
set_option linter.unusedVariables false
set_option linter.unusedSimpArgs false
set_option linter.unusedSectionVars false
namespace Go.Proofs.Ytfmbebgpbgcpeaa.PDr
open Go Go.RowKit Go.Proofs.Ytfmbebgpbgcpeaa.V Go.Proofs.Ytfmbebgpbgcpeaa.C

theorem draw_out (code : List Int) (h : code.length ≤ 1048576) : Out (fun t => ∃ n, 2 ≤ n ∧ n ≤ 4 ∧ Tabs n t) (fun k => spec_DrawTables.f k code) := by
  unfold spec_DrawTables.f
  refine Out.bind (new_out code (by omega)) fun y hy => Out.bind (below_out hy (n := 3) (by omega)) fun z hz => ?_
  have hz1 := hz.1
  rw [wrap_of (a := 2 + z.1) (by omega) (by omega)]
  exact Out.bind (tables_out (n := 2 + z.1) (by omega) hz.2) fun u hu => Out.ret ⟨2 + z.1, by omega, by omega, hu.1⟩
theorem Tabs.names {n : Int} {t : S33} (h : Tabs n t) (hn : n ≤ 6) : ∀ x ∈ t.f7, x.f0.size ≤ 9223372036854775807 := by
  intro x hx
  obtain ⟨e, hr⟩ := h.rows
  have hp := h.parts
  obtain ⟨i, hi, rfl⟩ := List.getElem_of_mem hx
  have h1 := hr.name i hi
  have h2 : t.f7.getD i z101 = t.f7[i] := by rw [List.getD_eq_getElem?_getD, List.getElem?_eq_getElem hi]; rfl
  rw [h2] at h1
  have h3 := nms_ok i (List.mem_range.2 (by omega))
  rw [Bool.and_eq_true, decide_eq_true_eq] at h3
  rw [h1]
  omega
theorem Tabs.small {n : Int} {t : S33} (h : Tabs n t) (hn : n ≤ 6) : Small t := by
  obtain ⟨e, hr⟩ := h.rows
  have h1 := h.parts; have h2 := h.slots; have h3 := h.devs; have h4 := h.chans
  exact ⟨by omega, fun x hx => by have := (hr.part x hx).2.1; omega, by omega, by omega, by omega⟩
theorem at_some (code : List Int) (hc : ∀ x ∈ code, 0 ≤ x ∧ x ≤ 255) (h : code.length ≤ 1048576) (i : Int) (hi : 0 ≤ i ∧ i ≤ 1000) : ∃ x, laws_at.f code i = some x ∧ 0 ≤ x ∧ x ≤ 255 := by
  unfold laws_at.f
  by_cases c : i < (code.length : Int)
  · have := hc (rd code i) (getD_mem (z := (0 : Int)) (by omega))
    exact ⟨rd code i, by rw [if_pos c, if_pos hi.1, if_pos c, wrap_of (by omega) (by omega)], this⟩
  · refine ⟨Int.tmod (wrap64 (wrap64 (i * 7) + (code.length : Int))) 256, by rw [if_neg c], ?_⟩
    rw [wrap_of (a := i * 7) (by omega) (by omega), wrap_of (by omega) (by omega), Int.tmod_eq_emod_of_nonneg (by omega)]
    omega
theorem bytes_in {code : List Int} (h : Fits (.sl (.int .u8)) code) : ∀ x ∈ code, 0 ≤ x ∧ x ≤ 255 := fun x hx => by
  have h1 : (Lit.int .u8 x).wf = true := h.2 x hx
  simp only [Lit.wf, Bool.and_eq_true, decide_eq_true_eq] at h1
  have e1 : IntKind.min .u8 = 0 := by decide
  have e2 : IntKind.max .u8 = 255 := by decide
  omega

end Go.Proofs.Ytfmbebgpbgcpeaa.PDr
