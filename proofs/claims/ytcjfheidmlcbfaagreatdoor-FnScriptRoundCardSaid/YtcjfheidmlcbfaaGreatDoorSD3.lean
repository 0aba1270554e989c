/- Plain Lean over the printed functions: the tables that a law draws. -/
import Derived.Test.YtcjfheidmlcbfaaGreatDoorSD2
set_option linter.unusedVariables false
set_option linter.unusedSimpArgs false
set_option linter.unusedSectionVars false
namespace Go.Proofs.YtcjfheidmlcbfaaGreatDoor.PSr
open Go Go.RowKit Go.Proofs.YtcjfheidmlcbfaaGreatDoor.V Go.Proofs.YtcjfheidmlcbfaaGreatDoor.C

theorem Tabs.names {n : Int} {t : S33} (h : Tabs n t) (hn : n ≤ 6) : ∀ x ∈ t.f7, x.f0.size ≤ 9223372036854775807 := by
  intro x hx
  obtain ⟨e, hr⟩ := h.rows
  have hp := h.parts
  obtain ⟨i, hi, rfl⟩ := List.getElem_of_mem hx
  have h1 := hr.name i hi
  have h2 : t.f7.getD i z71 = t.f7[i] := by rw [List.getD_eq_getElem?_getD, List.getElem?_eq_getElem hi]; rfl
  rw [h2] at h1
  have h3 := nms_ok i (List.mem_range.2 (by omega))
  rw [Bool.and_eq_true, decide_eq_true_eq] at h3
  rw [h1]
  omega
theorem Tabs.small {n : Int} {t : S33} (h : Tabs n t) (hn : n ≤ 6) : Small t := by
  obtain ⟨e, hr⟩ := h.rows
  have h1 := h.parts; have h2 := h.slots; have h3 := h.devs; have h4 := h.chans
  exact ⟨by omega, fun x hx => by have := (hr.part x hx).2.1; omega, by omega, by omega, by omega⟩
theorem bytes_in {code : List Int} (h : Fits (.sl (.int .u8)) code) : ∀ x ∈ code, 0 ≤ x ∧ x ≤ 255 := fun x hx => by
  have h1 : (Lit.int .u8 x).wf = true := h.2 x hx
  simp only [Lit.wf, Bool.and_eq_true, decide_eq_true_eq] at h1
  have e1 : IntKind.min .u8 = 0 := by decide
  have e2 : IntKind.max .u8 = 255 := by decide
  omega

end Go.Proofs.YtcjfheidmlcbfaaGreatDoor.PSr
