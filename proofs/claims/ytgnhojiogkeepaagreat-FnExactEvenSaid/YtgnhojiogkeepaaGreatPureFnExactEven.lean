/- Plain Lean over the printed functions: both Even come to the same, in new memory, and so the law's function answers true. -/
import Derived.Test.YtgnhojiogkeepaaGreatC20
set_option linter.unusedVariables false
set_option linter.unusedSimpArgs false
namespace Go.Proofs.YtgnhojiogkeepaaGreat.PMe
open Go Go.RowKit Go.Proofs.YtgnhojiogkeepaaGreat.V Go.Proofs.YtgnhojiogkeepaaGreat.C

theorem names_fitEven (t : S31) (h : Fits T31 t) : ∀ x ∈ t.f7, x.f0.size ≤ 9223372036854775807 := fun x hx => by
  have := h.2.2.2.2.2.2.2.1.2 x hx
  have h1 : x.f0.size ≤ maxLen := this.1
  have hm : maxLen ≤ 9223372036854775807 := by unfold maxLen; omega
  omega

theorem pure_FnExactEven : ∀ (x0 : T31.den) (x1 : Int) (x2 : Int), Fits T31 x0 → Fits (.int .i64) x1 → Fits (.int .i64) x2 → ∃ k, laws_FnExactEven.c.fn k (x0, x1, x2, ()) () = some true := by
  intro t p cut h _ _
  refine Ev.get (g := fun k => laws_FnExactEven.f k t p cut) ?_
  unfold laws_FnExactEven.f
  obtain ⟨v, hv, hb⟩ := szTables_ev t h
  refine Ev.bind hv ?_
  by_cases c : v < 0
  · exact Ev.ite_pos c (Ev.ret _)
  have hs := hb (by omega)
  have hnm := names_fitEven t h
  have ht := toTables_ev t hs
  have hi := implEven_ev t hs hnm p cut
  have hp := specEven_ev t hs hnm p cut
  have hsm := evenV_small hs p cut
  have he := eqTables_ev _ hsm
  obtain ⟨m, hm, hm0, hmB, hmH⟩ := marked_ev t hs
  obtain ⟨q, hq, hq0, _, hqH⟩ := marked_ev _ hsm
  have hbb : ∀ b : Bool, (b == b) = true := fun b => by cases b <;> rfl
  exact Ev.ite_neg c (Ev.bind ht (Ev.bind hp (Ev.bind ht (Ev.bind hi (Ev.bind he (Ev.ite_pos rfl (Ev.ite_pos (hbb _) (Ev.bind ht (Ev.bind (eqTables_ev t hs) (Ev.ite_pos rfl (Ev.bind hm (Ev.ite_neg (by omega) (Ev.bind he (Ev.ite_pos rfl (Ev.ite_pos (hbb _) (Ev.bind hq (Ev.bind hqH (Ev.ite_neg (by omega) (Ev.ite_pos rfl (Ev.bind ht (Ev.bind hi (Ev.bind he (Ev.ite_pos rfl (Ev.ite_pos (hbb _) (Ev.bind hqH (Ev.ite_neg (by omega) (Ev.ite_pos rfl (Ev.ret _))))))))))))))))))))))))))))
end Go.Proofs.YtgnhojiogkeepaaGreat.PMe
