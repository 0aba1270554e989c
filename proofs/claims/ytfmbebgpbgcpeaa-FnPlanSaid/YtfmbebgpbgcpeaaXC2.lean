/- Plain Lean over the printed functions: how great tables are. -/
import Derived.Test.YtfmbebgpbgcpeaaXC1
import Derived.Test.YtfmbebgpbgcpeaaXQPlx5
set_option linter.unusedVariables false
set_option linter.unusedSimpArgs false
namespace Go.Proofs.Ytfmbebgpbgcpeaa.PPl
open Go Go.RowKit Go.Proofs.Ytfmbebgpbgcpeaa.V Go.Proofs.Ytfmbebgpbgcpeaa.C

structure Small (t : S33) : Prop where
  parts : t.f7.length ≤ 1048576
  windows : ∀ x ∈ t.f7, x.f3.length ≤ 1048576
  devs : t.f8.length ≤ 1048576
  chans : t.f9.length ≤ 1048576
  slots : t.f10.length ≤ 1048576
end Go.Proofs.Ytfmbebgpbgcpeaa.PPl
