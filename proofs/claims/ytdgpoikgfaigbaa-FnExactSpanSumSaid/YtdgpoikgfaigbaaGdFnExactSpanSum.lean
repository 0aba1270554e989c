/- The arguments of FnExactSpanSum opened, and what is to be proved of its printed function. -/
import Derived.Test.YtdgpoikgfaigbaaOpen
import Derived.Test.YtdgpoikgfaigbaaPFnExactSpanSumx2
namespace Go.Proofs.Ytdgpoikgfaigbaa.GdFnExactSpanSum
open Go.RowKit Go.Proofs.Ytdgpoikgfaigbaa.PFnExactSpanSum Go.Proofs.YtdgpoikgfaigbaaW.PrintWords Go.Proofs.Ytdgpoikgfaigbaa.Opn
def G53 (b : S53) : Prop := (Lit.int .i64 b.f0).wf = true ∧ (Lit.int .i64 b.f1).wf = true ∧ (Lit.int .i64 b.f2).wf = true ∧ (Lit.int .i64 b.f3).wf = true
theorem o53 : Opens Try.prog 53 k53 G53 := opens_struct Try.underlying53 (by kernel_rfl) (opensF_cons rfl (opens_int Try.underlying3 (by kernel_rfl)) (opensF_cons rfl (opens_int Try.underlying3 (by kernel_rfl)) (opensF_cons rfl (opens_int Try.underlying3 (by kernel_rfl)) (opensF_one rfl (opens_int Try.underlying3 (by kernel_rfl)))))) _ (fun x => ⟨x.1, x.2.1, x.2.2.1, x.2.2.2⟩) (fun _ => rfl)
/-- The pure statement. -/
def Pure : Prop := ∀ (l0 : List (S53)) (a1 : Int) (a2 : Int), (l0.length ≤ maxLen ∧ ∀ x0 ∈ l0, G53 x0) → (Lit.int .i64 a1).wf = true → (Lit.int .i64 a2).wf = true → ∃ k, laws_FnExactSpanSum.f k l0 a1 a2 = some true
end Go.Proofs.Ytdgpoikgfaigbaa.GdFnExactSpanSum
