/- Plain Lean over the printed functions: both SpansOk come to the same, and so the law's function answers true. -/
import Derived.Test.YtgagpmiooeoodaaGreatC14
set_option linter.unusedVariables false
set_option linter.unusedSimpArgs false
namespace Go.Proofs.YtgagpmiooeoodaaGreat.PTwo
open Go Go.RowKit Go.Proofs.YtgagpmiooeoodaaGreat.V Go.Proofs.YtgagpmiooeoodaaGreat.C

theorem pure_FnExactSpansOk : ∀ (x0 : T31.den) (x1 x2 : Int) (x3 : List S106), Fits T31 x0 → Fits (.int .i64) x1 → Fits (.int .i64) x2 → Fits (.sl T106) x3 → ∃ k, laws_FnExactSpansOk.c.fn k (x0, x1, x2, x3, ()) () = some true := by
  intro t a b l h _ _ hl0
  refine Ev.get (g := fun k => laws_FnExactSpansOk.f k t a b l) ?_
  obtain ⟨v, hv, hb⟩ := szTables_ev' t h
  unfold laws_FnExactSpansOk.f
  refine Ev.bind hv ?_
  by_cases c : v < 0
  · exact Ev.ite_pos c (Ev.ret _)
  obtain ⟨hs, hv1⟩ := hb (by omega)
  have hnm := names_fit t h
  have ht := toTables_ev t hs
  have hm : maxLen ≤ 9223372036854775807 := by unfold maxLen; omega
  have hl1 : l.length ≤ maxLen := hl0.1
  have e : wrap64 (v - (l.length : Int)) = v - (l.length : Int) := wrap_of (by omega) (by omega)
  refine Ev.ite_neg c ?_
  unfold laws_szSpanS.f
  rw [e]
  by_cases c1 : v - (l.length : Int) < 0
  · simp only [if_pos c1, Option.bind_some]
    exact Ev.ite_pos (by omega) (Ev.ret _)
  simp only [if_neg c1, Option.bind_some]
  have hl : l.length ≤ 1048576 := by omega
  have hls := toSpanS_ev l hl
  refine Ev.bind ht (Ev.bind hls (Ev.bind (specSpansOk_ev t hs hnm a b l) (Ev.bind ht (Ev.bind hls (Ev.bind (implSpansOk_ev t hs hnm a b l) (Ev.ite_pos (by simp) (Ev.bind ht (Ev.bind (eqTables_ev t hs) (Ev.ite_pos rfl (Ev.bind hls (Ev.bind (eqSpanS_ev l hl) (Ev.ite_pos rfl (Ev.ret _)))))))))))))
end Go.Proofs.YtgagpmiooeoodaaGreat.PTwo
