/- Go functions as Lean functions, each with its contract. -/
import Derived.Test.YtmdnpaekamkknaaDoorChecked
import Derived.Test.YtmdnpaekamkknaaDoorV12
set_option linter.unusedVariables false
set_option maxRecDepth 100000
namespace Go.Proofs.YtmdnpaekamkknaaDoor.PHx
open Go Go.Proofs Go.RowKit Go.Proofs.YtmdnpaekamkknaaDoor.V
noncomputable section
abbrev rd (l : List Int) (i : Int) : Int := l.getD i.toNat 0
abbrev rd_str (l : List ByteArray) (i : Int) : ByteArray := l.getD i.toNat ByteArray.empty
abbrev rd_bool (l : List Bool) (i : Int) : Bool := l.getD i.toNat false
def TL : List (Nat × TI) := [
  (5, { k := .int .u8, size := 1, bytes := 1, ty := some (.int .u8), offs := [], zero := [.int .u8 0], eq := false }),
  (9, { k := .str, size := 1, bytes := 16, ty := some .str, offs := [], zero := [.str ByteArray.empty], eq := false }),
  (29, { k := .slice 5, size := 1, bytes := 24, ty := some (.sl (.int .u8)), offs := [], zero := [.nil], eq := false })]
theorem tok : TOK Tryd.prog (lookT TL) := tok_of (by kernel_rfl)
theorem mix : Tryd.prog.follows .mixedOrders = true := by kernel_rfl
end
end Go.Proofs.YtmdnpaekamkknaaDoor.PHx
