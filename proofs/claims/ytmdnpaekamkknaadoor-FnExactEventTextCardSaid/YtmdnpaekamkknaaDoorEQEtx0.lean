/- Go functions as Lean functions, each with its contract. -/
import Derived.Test.YtmdnpaekamkknaaDoorChecked
import Derived.Test.YtmdnpaekamkknaaDoorEV12
import Derived.Test.YtmdnpaekamkknaaDoorEVG
import Derived.Test.YtmdnpaekamkknaaDoorEVGN
set_option linter.unusedVariables false
set_option maxRecDepth 100000
namespace Go.Proofs.YtmdnpaekamkknaaDoor.PEt
open Go Go.Proofs Go.RowKit Go.Proofs.YtmdnpaekamkknaaDoor.V
noncomputable section
abbrev S24 := Int × Int × Int × Int × Int × Int × Int
abbrev T24 : Ty := (.pair (.int .i64) (.pair (.int .i64) (.pair (.int .u32) (.pair (.int .i64) (.pair (.int .i64) (.pair (.int .i64) (.int .u32)))))))
abbrev z24 : S24 := (0, 0, 0, 0, 0, 0, 0)
abbrev S24.f0 (x : S24) : Int := x.1
abbrev S24.f1 (x : S24) : Int := x.2.1
abbrev S24.f2 (x : S24) : Int := x.2.2.1
abbrev S24.f3 (x : S24) : Int := x.2.2.2.1
abbrev S24.f4 (x : S24) : Int := x.2.2.2.2.1
abbrev S24.f5 (x : S24) : Int := x.2.2.2.2.2.1
abbrev S24.f6 (x : S24) : Int := x.2.2.2.2.2.2
abbrev S26 := Int × Int × Int × Int × Int × Int × Int
abbrev T26 : Ty := (.pair (.int .i64) (.pair (.int .i64) (.pair (.int .u32) (.pair (.int .i64) (.pair (.int .i64) (.pair (.int .i64) (.int .u32)))))))
abbrev z26 : S26 := (0, 0, 0, 0, 0, 0, 0)
abbrev S26.f0 (x : S26) : Int := x.1
abbrev S26.f1 (x : S26) : Int := x.2.1
abbrev S26.f2 (x : S26) : Int := x.2.2.1
abbrev S26.f3 (x : S26) : Int := x.2.2.2.1
abbrev S26.f4 (x : S26) : Int := x.2.2.2.2.1
abbrev S26.f5 (x : S26) : Int := x.2.2.2.2.2.1
abbrev S26.f6 (x : S26) : Int := x.2.2.2.2.2.2
abbrev rd (l : List Int) (i : Int) : Int := l.getD i.toNat 0
abbrev rd_str (l : List ByteArray) (i : Int) : ByteArray := l.getD i.toNat ByteArray.empty
abbrev rd_bool (l : List Bool) (i : Int) : Bool := l.getD i.toNat false
def TL : List (Nat × TI) := [
  (3, { k := .int .i64, size := 1, bytes := 8, ty := some (.int .i64), offs := [], zero := [.int .i64 0], eq := false }),
  (5, { k := .int .u8, size := 1, bytes := 1, ty := some (.int .u8), offs := [], zero := [.int .u8 0], eq := false }),
  (9, { k := .str, size := 1, bytes := 16, ty := some .str, offs := [], zero := [.str ByteArray.empty], eq := false }),
  (22, { k := .int .u32, size := 1, bytes := 4, ty := some (.int .u32), offs := [], zero := [.int .u32 0], eq := false }),
  (24, { k := .struct, size := 7, bytes := 56, ty := some T24, offs := [(0, 1), (1, 1), (2, 1), (3, 1), (4, 1), (5, 1), (6, 1)], zero := [.int .i64 0, .int .i64 0, .int .u32 0, .int .i64 0, .int .i64 0, .int .i64 0, .int .u32 0], eq := false }),
  (26, { k := .struct, size := 7, bytes := 56, ty := some T26, offs := [(0, 1), (1, 1), (2, 1), (3, 1), (4, 1), (5, 1), (6, 1)], zero := [.int .i64 0, .int .i64 0, .int .u32 0, .int .i64 0, .int .i64 0, .int .i64 0, .int .u32 0], eq := false }),
  (29, { k := .slice 5, size := 1, bytes := 24, ty := some (.sl (.int .u8)), offs := [], zero := [.nil], eq := false }),
  (41, { k := .slice 9, size := 1, bytes := 24, ty := some (.sl .str), offs := [], zero := [.nil], eq := false })]
theorem tok : TOK Tryd.prog (lookT TL) := tok_of (by kernel_rfl)
theorem mix : Tryd.prog.follows .mixedOrders = true := by kernel_rfl
end
end Go.Proofs.YtmdnpaekamkknaaDoor.PEt
