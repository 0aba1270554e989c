/- Go functions as Lean functions, each with its contract. -/
import Derived.Test.YtmdnpaekamkknaaDoorChecked
import Derived.Test.YtmdnpaekamkknaaDoorV12
import Derived.Test.YtmdnpaekamkknaaDoorVG
import Derived.Test.YtmdnpaekamkknaaDoorVGD
import Derived.Test.YtmdnpaekamkknaaDoorVGH
import Derived.Test.YtmdnpaekamkknaaDoorVGN
import Derived.Test.YtmdnpaekamkknaaDoorVGS
set_option linter.unusedVariables false
set_option maxRecDepth 100000
namespace Go.Proofs.YtmdnpaekamkknaaDoor.PEo
open Go Go.Proofs Go.RowKit Go.Proofs.YtmdnpaekamkknaaDoor.V
noncomputable section
abbrev S26 := Int × Int × Int × Int × Int × Int × Int
abbrev T26 : Ty := (.pair (.int .i64) (.pair (.int .i64) (.pair (.int .u32) (.pair (.int .i64) (.pair (.int .i64) (.pair (.int .i64) (.int .u32)))))))
abbrev z26 : S26 := (0, 0, 0, 0, 0, 0, 0)
abbrev S26.f0 (x : S26) : Int := x.1
abbrev S26.f1 (x : S26) : Int := x.2.1
abbrev S26.f2 (x : S26) : Int := x.2.2.1
abbrev S26.f3 (x : S26) : Int := x.2.2.2.1
abbrev S26.f4 (x : S26) : Int := x.2.2.2.2.1
abbrev S26.f5 (x : S26) : Int := x.2.2.2.2.2.1
abbrev S26.f6 (x : S26) : Int := x.2.2.2.2.2.2
abbrev S56 := (List Int) × Int × Int
abbrev T56 : Ty := (.pair (.sl (.int .u8)) (.pair (.int .i64) (.int .i64)))
abbrev z56 : S56 := ([], 0, 0)
abbrev S56.f0 (x : S56) : List Int := x.1
abbrev S56.f1 (x : S56) : Int := x.2.1
abbrev S56.f2 (x : S56) : Int := x.2.2
abbrev rd (l : List Int) (i : Int) : Int := l.getD i.toNat 0
abbrev rd_str (l : List ByteArray) (i : Int) : ByteArray := l.getD i.toNat ByteArray.empty
abbrev rd_bool (l : List Bool) (i : Int) : Bool := l.getD i.toNat false
def TL : List (Nat × TI) := [
  (3, { k := .int .i64, size := 1, bytes := 8, ty := some (.int .i64), offs := [], zero := [.int .i64 0], eq := false }),
  (4, { k := .bool, size := 1, bytes := 1, ty := some .bool, offs := [], zero := [.lit false], eq := false }),
  (5, { k := .int .u8, size := 1, bytes := 1, ty := some (.int .u8), offs := [], zero := [.int .u8 0], eq := false }),
  (9, { k := .str, size := 1, bytes := 16, ty := some .str, offs := [], zero := [.str ByteArray.empty], eq := false }),
  (22, { k := .int .u32, size := 1, bytes := 4, ty := some (.int .u32), offs := [], zero := [.int .u32 0], eq := false }),
  (26, { k := .struct, size := 7, bytes := 56, ty := some T26, offs := [(0, 1), (1, 1), (2, 1), (3, 1), (4, 1), (5, 1), (6, 1)], zero := [.int .i64 0, .int .i64 0, .int .u32 0, .int .i64 0, .int .i64 0, .int .i64 0, .int .u32 0], eq := true }),
  (29, { k := .slice 5, size := 1, bytes := 24, ty := some (.sl (.int .u8)), offs := [], zero := [.nil], eq := false }),
  (41, { k := .slice 9, size := 1, bytes := 24, ty := some (.sl .str), offs := [], zero := [.nil], eq := false }),
  (43, { k := .slice 3, size := 1, bytes := 24, ty := some (.sl (.int .i64)), offs := [], zero := [.nil], eq := false }),
  (56, { k := .struct, size := 3, bytes := 40, ty := some T56, offs := [(0, 1), (1, 1), (2, 1)], zero := [.nil, .int .i64 0, .int .i64 0], eq := false })]
theorem tok : TOK Tryd.prog (lookT TL) := tok_of (by kernel_rfl)
theorem mix : Tryd.prog.follows .mixedOrders = true := by kernel_rfl
end
end Go.Proofs.YtmdnpaekamkknaaDoor.PEo
