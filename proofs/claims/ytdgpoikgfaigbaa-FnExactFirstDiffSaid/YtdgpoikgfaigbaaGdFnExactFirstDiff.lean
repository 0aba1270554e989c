/- The arguments of FnExactFirstDiff opened, and what is to be proved of its printed function. -/
import Derived.Test.YtdgpoikgfaigbaaOpen
import Derived.Test.YtdgpoikgfaigbaaQFnExactFirstDiffx4
namespace Go.Proofs.Ytdgpoikgfaigbaa.GdFnExactFirstDiff
open Go.RowKit Go.Proofs.Ytdgpoikgfaigbaa.PFnExactFirstDiff Go.Proofs.YtdgpoikgfaigbaaW.PrintWords Go.Proofs.Ytdgpoikgfaigbaa.Opn
def G59 (b : S59) : Prop := (Lit.int .i64 b.f0).wf = true ∧ (Lit.int .i64 b.f1).wf = true ∧ (Lit.int .u32 b.f2).wf = true ∧ (Lit.int .i64 b.f3).wf = true ∧ (Lit.int .i64 b.f4).wf = true ∧ (Lit.int .i64 b.f5).wf = true ∧ (Lit.int .u32 b.f6).wf = true
theorem o59 : Opens Try.prog 59 k59 G59 := opens_struct Try.underlying59 (by kernel_rfl) (opensF_cons rfl (opens_int Try.underlying3 (by kernel_rfl)) (opensF_cons rfl (opens_int Try.underlying3 (by kernel_rfl)) (opensF_cons rfl (opens_int Try.underlying43 (by kernel_rfl)) (opensF_cons rfl (opens_int Try.underlying3 (by kernel_rfl)) (opensF_cons rfl (opens_int Try.underlying3 (by kernel_rfl)) (opensF_cons rfl (opens_int Try.underlying3 (by kernel_rfl)) (opensF_one rfl (opens_int Try.underlying43 (by kernel_rfl))))))))) _ (fun x => ⟨x.1, x.2.1, x.2.2.1, x.2.2.2.1, x.2.2.2.2.1, x.2.2.2.2.2.1, x.2.2.2.2.2.2⟩) (fun _ => rfl)
/-- The pure statement. -/
def Pure : Prop := ∀ (l0 : List (S59)) (l1 : List (S59)), (l0.length ≤ maxLen ∧ ∀ x0 ∈ l0, G59 x0) → (l1.length ≤ maxLen ∧ ∀ x0 ∈ l1, G59 x0) → ∃ k, laws_FnExactFirstDiff.f k l0 l1 = some true
end Go.Proofs.Ytdgpoikgfaigbaa.GdFnExactFirstDiff
