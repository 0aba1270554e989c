/- The arguments of FnExactClockAfter opened, and what is to be proved of its printed function. -/
import Derived.Test.YtdgpoikgfaigbaaOpen
import Derived.Test.YtdgpoikgfaigbaaPFnExactClockAfterx2
namespace Go.Proofs.Ytdgpoikgfaigbaa.GdFnExactClockAfter
open Go.RowKit Go.Proofs.Ytdgpoikgfaigbaa.PFnExactClockAfter Go.Proofs.YtdgpoikgfaigbaaW.PrintWords Go.Proofs.Ytdgpoikgfaigbaa.Opn
def G47 (b : S47) : Prop := (Lit.int .i64 b.f0).wf = true ∧ (Lit.int .i64 b.f1).wf = true ∧ (Lit.int .u32 b.f2).wf = true
theorem o47 : Opens Try.prog 47 k47 G47 := opens_struct Try.underlying47 (by kernel_rfl) (opensF_cons rfl (opens_int Try.underlying3 (by kernel_rfl)) (opensF_cons rfl (opens_int Try.underlying3 (by kernel_rfl)) (opensF_one rfl (opens_int Try.underlying43 (by kernel_rfl))))) _ (fun x => ⟨x.1, x.2.1, x.2.2⟩) (fun _ => rfl)
/-- The pure statement. -/
def Pure : Prop := ∀ (l0 : List (S47)), (l0.length ≤ maxLen ∧ ∀ x0 ∈ l0, G47 x0) → ∃ k, laws_FnExactClockAfter.f k l0 = some true
end Go.Proofs.Ytdgpoikgfaigbaa.GdFnExactClockAfter
