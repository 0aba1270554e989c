/- Plain Lean over the printed functions: both CmdsFor come to the same, what comes back is nobody else's, and so the law's function answers true. -/
import Derived.Test.YtgagpmiooeoodaaGreatC15
import Derived.Test.YtgagpmiooeoodaaGreatC10
set_option linter.unusedVariables false
set_option linter.unusedSimpArgs false
namespace Go.Proofs.YtgagpmiooeoodaaGreat.PTwo
open Go Go.RowKit Go.Proofs.YtgagpmiooeoodaaGreat.V Go.Proofs.YtgagpmiooeoodaaGreat.C

theorem pure_FnExactCmdsFor : ∀ (x0 : T31.den) (x1 : Int) (x2 : List S146), Fits T31 x0 → Fits (.int .i64) x1 → Fits (.sl T146) x2 → ∃ k, laws_FnExactCmdsFor.c.fn k (x0, x1, x2, ()) () = some true := by
  intro t p l h _ hl0
  refine Ev.get (g := fun k => laws_FnExactCmdsFor.f k t p l) ?_
  obtain ⟨v, hv, hb⟩ := szTables_ev' t h
  unfold laws_FnExactCmdsFor.f
  refine Ev.bind hv ?_
  by_cases c : v < 0
  · exact Ev.ite_pos c (Ev.ret _)
  obtain ⟨hs, hv1⟩ := hb (by omega)
  have hnm := names_fit t h
  have ht := toTables_ev t hs
  have hm : maxLen ≤ 9223372036854775807 := by unfold maxLen; omega
  have hl1 : l.length ≤ maxLen := hl0.1
  have e : wrap64 (v - (l.length : Int)) = v - (l.length : Int) := wrap_of (by omega) (by omega)
  refine Ev.ite_neg c ?_
  unfold laws_szCmdS.f
  rw [e]
  by_cases c1 : v - (l.length : Int) < 0
  · simp only [if_pos c1, Option.bind_some]
    exact Ev.ite_pos (by omega) (Ev.ret _)
  simp only [if_neg c1, Option.bind_some]
  have hl : l.length ≤ 1048576 := by omega
  have hls := toCmdS_ev l hl
  have hc := cmdsV_len t p l
  have hi := implCmds_ev t hs hnm p l
  have he : Ev (fun k => laws_eqCmdS.f k (cmdsV t p l) (cmdsV t p l)) true := eqCmdS_ev _ (by omega)
  obtain ⟨m, hmk, hm0, hm1⟩ := markTables_ev t hs
  have hmc := markCmdS_ev l hl m.1 hm0 (by rw [mks_const]; unfold BB; omega)
  have hc0 : (0 : Int) ≤ mks (fun _ => 3) l := by rw [mks_const]; omega
  have hB : (1 : Int) + mks (fun _ => 3) (cmdsV t p l) ≤ BB := by rw [mks_const]; unfold BB; omega
  have h0 : (0 : Int) ≤ mks (fun _ => 3) (cmdsV t p l) := by rw [mks_const]; omega
  have hk := markCmdS_ev (cmdsV t p l) (by omega) 1 (by omega) hB
  have hh := heldCmdS_ev (cmdsV t p l) (by omega) 1 (by omega) hB
  refine Ev.bind ht (Ev.bind hls (Ev.bind (specCmds_ev t hs hnm p l) (Ev.bind ht (Ev.bind hls (Ev.bind hi (Ev.bind he (Ev.ite_pos rfl (Ev.bind ht (Ev.bind (eqTables_ev t hs) (Ev.ite_pos rfl (Ev.bind hls (Ev.bind (eqCmdS_ev l hl) (Ev.ite_pos rfl (Ev.bind hmk (Ev.bind hmc (Ev.ite_neg (by show ¬ m.1 + mks (fun _ => 3) l < 0; omega) (Ev.bind he (Ev.ite_pos rfl (Ev.bind hk (Ev.bind hh (Ev.ite_neg ?_ (Ev.ite_pos ?_ (Ev.bind ht (Ev.bind hls (Ev.bind hi (Ev.bind he (Ev.ite_pos rfl (Ev.bind hh (Ev.ite_neg ?_ (Ev.ite_pos ?_ (Ev.ret _)))))))))))))))))))))))))))))))
  all_goals first | rfl | omega
end Go.Proofs.YtgagpmiooeoodaaGreat.PTwo
