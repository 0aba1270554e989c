/- The program's EventOf and the reference's come to the same, at every text: the printed law answers true. -/
import Derived.Test.YtmdnpaekamkknaaDoorT6
set_option linter.unusedVariables false
set_option linter.unusedSimpArgs false
set_option linter.unusedSectionVars false
namespace Go.Proofs.YtmdnpaekamkknaaDoor.PEo
open Go Go.RowKit Go.Proofs.YtmdnpaekamkknaaDoor.V Go.Proofs.YtmdnpaekamkknaaDoor.C

theorem eqEvent_self (e : SEv) : laws_eqEvent.f e e = some true := by
  unfold laws_eqEvent.f
  simp
theorem pure_FnExactEventOf (s : ByteArray) (hs : Fits .str s) : ∃ k, laws_FnExactEventOf.c.fn k (s, ()) () = some true := by
  refine Ev.get (g := fun k => laws_FnExactEventOf.f k s) ?_
  unfold laws_FnExactEventOf.f
  refine Ev.ite_both (fun h => Ev.ret _) fun h => ?_
  refine Ev.bind (eventS_ev s) (Ev.bind (eventI_ev s (by omega)) ?_)
  simp only [eqEvent_self, Option.bind_some]
  exact Ev.ite_pos trivial (Ev.ite_pos (by simp) (Ev.ret _))
end Go.Proofs.YtmdnpaekamkknaaDoor.PEo
