/- Go functions as Lean functions, each with its contract. -/
import Derived.Test.YtgnhojiogkeepaaChecked
import Derived.Test.YtgnhojiogkeepaaV12
set_option linter.unusedVariables false
set_option maxRecDepth 100000
namespace Go.Proofs.Ytgnhojiogkeepaa.PPo
open Go Go.Proofs Go.RowKit Go.Proofs.Ytgnhojiogkeepaa.V
noncomputable section
abbrev S29 := (List Int) × Int × (List (List Int))
abbrev T29 : Ty := (.pair (.sl (.int .u32)) (.pair (.int .u32) (.sl (.sl (.int .u8)))))
abbrev z29 : S29 := ([], 0, [])
abbrev S29.f0 (x : S29) : List Int := x.1
abbrev S29.f1 (x : S29) : Int := x.2.1
abbrev S29.f2 (x : S29) : List (List Int) := x.2.2
abbrev S40 := Int × Int × Int
abbrev T40 : Ty := (.pair (.int .i64) (.pair (.int .i64) (.int .i64)))
abbrev z40 : S40 := (0, 0, 0)
abbrev S40.f0 (x : S40) : Int := x.1
abbrev S40.f1 (x : S40) : Int := x.2.1
abbrev S40.f2 (x : S40) : Int := x.2.2
abbrev S119 := (List Int) × Int × Int
abbrev T119 : Ty := (.pair (.sl (.int .u8)) (.pair (.int .i64) (.int .i64)))
abbrev z119 : S119 := ([], 0, 0)
abbrev S119.f0 (x : S119) : List Int := x.1
abbrev S119.f1 (x : S119) : Int := x.2.1
abbrev S119.f2 (x : S119) : Int := x.2.2
abbrev S173 := Int × Int × Int × Int × Int
abbrev T173 : Ty := (.pair (.int .i64) (.pair (.int .i64) (.pair (.int .i64) (.pair (.int .i64) (.int .i64)))))
abbrev z173 : S173 := (0, 0, 0, 0, 0)
abbrev S173.f0 (x : S173) : Int := x.1
abbrev S173.f1 (x : S173) : Int := x.2.1
abbrev S173.f2 (x : S173) : Int := x.2.2.1
abbrev S173.f3 (x : S173) : Int := x.2.2.2.1
abbrev S173.f4 (x : S173) : Int := x.2.2.2.2
abbrev rd (l : List Int) (i : Int) : Int := l.getD i.toNat 0
abbrev rd_str (l : List ByteArray) (i : Int) : ByteArray := l.getD i.toNat ByteArray.empty
abbrev rd_bool (l : List Bool) (i : Int) : Bool := l.getD i.toNat false
abbrev rd_ListInt (l : List (List Int)) (i : Int) : List Int := l.getD i.toNat []
abbrev rd_T40 (l : List S40) (i : Int) : S40 := l.getD i.toNat z40
def TL : List (Nat × TI) := [
  (3, { k := .int .i64, size := 1, bytes := 8, ty := some (.int .i64), offs := [], zero := [.int .i64 0], eq := false }),
  (5, { k := .int .u8, size := 1, bytes := 1, ty := some (.int .u8), offs := [], zero := [.int .u8 0], eq := false }),
  (9, { k := .str, size := 1, bytes := 16, ty := some .str, offs := [], zero := [.str ByteArray.empty], eq := false }),
  (22, { k := .slice 5, size := 1, bytes := 24, ty := some (.sl (.int .u8)), offs := [], zero := [.nil], eq := false }),
  (24, { k := .slice 40, size := 1, bytes := 24, ty := some (.sl T40), offs := [], zero := [.nil], eq := false }),
  (25, { k := .slice 26, size := 1, bytes := 24, ty := some (.sl (.int .u32)), offs := [], zero := [.nil], eq := false }),
  (26, { k := .int .u32, size := 1, bytes := 4, ty := some (.int .u32), offs := [], zero := [.int .u32 0], eq := false }),
  (27, { k := .slice 22, size := 1, bytes := 24, ty := some (.sl (.sl (.int .u8))), offs := [], zero := [.nil], eq := false }),
  (29, { k := .struct, size := 3, bytes := 56, ty := some T29, offs := [(0, 1), (1, 1), (2, 1)], zero := [.nil, .int .u32 0, .nil], eq := false }),
  (40, { k := .struct, size := 3, bytes := 24, ty := some T40, offs := [(0, 1), (1, 1), (2, 1)], zero := [.int .i64 0, .int .i64 0, .int .i64 0], eq := false }),
  (46, { k := .slice 3, size := 1, bytes := 24, ty := some (.sl (.int .i64)), offs := [], zero := [.nil], eq := false }),
  (119, { k := .struct, size := 3, bytes := 40, ty := some T119, offs := [(0, 1), (1, 1), (2, 1)], zero := [.nil, .int .i64 0, .int .i64 0], eq := false }),
  (173, { k := .struct, size := 5, bytes := 40, ty := some T173, offs := [(0, 1), (1, 1), (2, 1), (3, 1), (4, 1)], zero := [.int .i64 0, .int .i64 0, .int .i64 0, .int .i64 0, .int .i64 0], eq := false })]
theorem tok : TOK Try.prog (lookT TL) := tok_of (by kernel_rfl)
theorem mix : Try.prog.follows .mixedOrders = true := by kernel_rfl
end
end Go.Proofs.Ytgnhojiogkeepaa.PPo
