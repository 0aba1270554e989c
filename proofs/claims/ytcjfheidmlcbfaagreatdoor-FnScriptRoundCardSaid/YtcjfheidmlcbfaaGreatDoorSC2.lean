/- Plain Lean over the printed functions: how great tables are. -/
import Derived.Test.YtcjfheidmlcbfaaGreatDoorSC1
import Derived.Test.YtcjfheidmlcbfaaGreatDoorSQSrx6
set_option linter.unusedVariables false
set_option linter.unusedSimpArgs false
namespace Go.Proofs.YtcjfheidmlcbfaaGreatDoor.PSr
open Go Go.RowKit Go.Proofs.YtcjfheidmlcbfaaGreatDoor.V Go.Proofs.YtcjfheidmlcbfaaGreatDoor.C

structure Small (t : S33) : Prop where
  parts : t.f7.length ≤ 1048576
  windows : ∀ x ∈ t.f7, x.f3.length ≤ 1048576
  devs : t.f8.length ≤ 1048576
  chans : t.f9.length ≤ 1048576
  slots : t.f10.length ≤ 1048576
end Go.Proofs.YtcjfheidmlcbfaaGreatDoor.PSr
