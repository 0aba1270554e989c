/- Plain Lean over the printed functions: both Spans come to the same, what comes back is nobody else's, and so the law's function answers true. -/
import Derived.Test.YtgagpmiooeoodaaGreatC14
set_option linter.unusedVariables false
set_option linter.unusedSimpArgs false
namespace Go.Proofs.YtgagpmiooeoodaaGreat.PTwo
open Go Go.RowKit Go.Proofs.YtgagpmiooeoodaaGreat.V Go.Proofs.YtgagpmiooeoodaaGreat.C

theorem pure_FnExactSpans : ∀ (x0 : T31.den) (x1 x2 : Int), Fits T31 x0 → Fits (.int .i64) x1 → Fits (.int .i64) x2 → ∃ k, laws_FnExactSpans.c.fn k (x0, x1, x2, ()) () = some true := by
  intro t a b h _ _
  refine Ev.get (g := fun k => laws_FnExactSpans.f k t a b) ?_
  obtain ⟨v, hv, hb⟩ := szTables_ev t h
  unfold laws_FnExactSpans.f
  refine Ev.bind hv ?_
  by_cases c : v < 0
  · exact Ev.ite_pos c (Ev.ret _)
  have hs := hb (by omega)
  have hnm := names_fit t h
  have ht := toTables_ev t hs
  have hl := spansV_len t a b
  have hi := implSpans_ev t hs hnm a b
  have he : Ev (fun k => laws_eqSpanS.f k (spansV t a b) (spansV t a b)) true := eqSpanS_ev _ (by omega)
  obtain ⟨m, hm, hm0, _⟩ := markTables_ev t hs
  have hB : (1 : Int) + mks (fun _ => 4) (spansV t a b) ≤ BB := by rw [mks_const]; unfold BB; omega
  have h0 : (0 : Int) ≤ mks (fun _ => 4) (spansV t a b) := by rw [mks_const]; omega
  have hk := markSpanS_ev (spansV t a b) (by omega) 1 (by omega) hB
  have hh := heldSpanS_ev (spansV t a b) (by omega) 1 (by omega) hB
  refine Ev.ite_neg c (Ev.bind ht (Ev.bind (specSpans_ev t hs hnm a b) (Ev.bind ht (Ev.bind hi (Ev.bind he (Ev.ite_pos rfl (Ev.bind ht (Ev.bind (eqTables_ev t hs) (Ev.ite_pos rfl (Ev.bind hm (Ev.ite_neg (by omega) (Ev.bind he (Ev.ite_pos rfl (Ev.bind hk (Ev.bind hh (Ev.ite_neg ?_ (Ev.ite_pos ?_ (Ev.bind ht (Ev.bind hi (Ev.bind he (Ev.ite_pos rfl (Ev.bind hh (Ev.ite_neg ?_ (Ev.ite_pos ?_ (Ev.ret _)))))))))))))))))))))))))
  all_goals first | rfl | omega
end Go.Proofs.YtgagpmiooeoodaaGreat.PTwo
