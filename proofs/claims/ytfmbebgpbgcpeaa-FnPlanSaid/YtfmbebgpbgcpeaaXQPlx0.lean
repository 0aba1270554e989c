/- Go functions as Lean functions, each with its contract. -/
import Derived.Test.YtfmbebgpbgcpeaaChecked
import Derived.Test.YtfmbebgpbgcpeaaXV12
set_option linter.unusedVariables false
set_option maxRecDepth 100000
namespace Go.Proofs.Ytfmbebgpbgcpeaa.PPl
open Go Go.Proofs Go.RowKit Go.Proofs.Ytfmbebgpbgcpeaa.V
noncomputable section
abbrev S25 := Int × Int × Int
abbrev T25 : Ty := (.pair (.int .i64) (.pair (.int .i64) (.int .i64)))
abbrev z25 : S25 := (0, 0, 0)
abbrev S25.f0 (x : S25) : Int := x.1
abbrev S25.f1 (x : S25) : Int := x.2.1
abbrev S25.f2 (x : S25) : Int := x.2.2
abbrev S27 := Int × Int × Int × Int × Int × Int × Int
abbrev T27 : Ty := (.pair (.int .i64) (.pair (.int .i64) (.pair (.int .i64) (.pair (.int .i64) (.pair (.int .i64) (.pair (.int .i64) (.int .i64)))))))
abbrev z27 : S27 := (0, 0, 0, 0, 0, 0, 0)
abbrev S27.f0 (x : S27) : Int := x.1
abbrev S27.f1 (x : S27) : Int := x.2.1
abbrev S27.f2 (x : S27) : Int := x.2.2.1
abbrev S27.f3 (x : S27) : Int := x.2.2.2.1
abbrev S27.f4 (x : S27) : Int := x.2.2.2.2.1
abbrev S27.f5 (x : S27) : Int := x.2.2.2.2.2.1
abbrev S27.f6 (x : S27) : Int := x.2.2.2.2.2.2
abbrev S99 := Int × Int
abbrev T99 : Ty := (.pair (.int .i64) (.int .i64))
abbrev z99 : S99 := (0, 0)
abbrev S99.f0 (x : S99) : Int := x.1
abbrev S99.f1 (x : S99) : Int := x.2
abbrev S57 := Int × Int × Int
abbrev T57 : Ty := (.pair (.int .i64) (.pair (.int .i64) (.int .i64)))
abbrev z57 : S57 := (0, 0, 0)
abbrev S57.f0 (x : S57) : Int := x.1
abbrev S57.f1 (x : S57) : Int := x.2.1
abbrev S57.f2 (x : S57) : Int := x.2.2
abbrev S101 := ByteArray × Int × S99 × (List S57)
abbrev T101 : Ty := (.pair .str (.pair (.int .i64) (.pair T99 (.sl T57))))
abbrev z101 : S101 := (ByteArray.empty, 0, z99, [])
abbrev S101.f0 (x : S101) : ByteArray := x.1
abbrev S101.f1 (x : S101) : Int := x.2.1
abbrev S101.f2 (x : S101) : S99 := x.2.2.1
abbrev S101.f3 (x : S101) : List S57 := x.2.2.2
abbrev S39 := Int × Int × Int × Int
abbrev T39 : Ty := (.pair (.int .i64) (.pair (.int .i64) (.pair (.int .i64) (.int .i64))))
abbrev z39 : S39 := (0, 0, 0, 0)
abbrev S39.f0 (x : S39) : Int := x.1
abbrev S39.f1 (x : S39) : Int := x.2.1
abbrev S39.f2 (x : S39) : Int := x.2.2.1
abbrev S39.f3 (x : S39) : Int := x.2.2.2
abbrev S61 := Int × Int × Int
abbrev T61 : Ty := (.pair (.int .i64) (.pair (.int .i64) (.int .i64)))
abbrev z61 : S61 := (0, 0, 0)
abbrev S61.f0 (x : S61) : Int := x.1
abbrev S61.f1 (x : S61) : Int := x.2.1
abbrev S61.f2 (x : S61) : Int := x.2.2
abbrev S33 := Int × S25 × Int × S27 × Int × Int × Int × (List S101) × (List Int) × (List S39) × (List S61)
abbrev T33 : Ty := (.pair (.int .i64) (.pair T25 (.pair (.int .i64) (.pair T27 (.pair (.int .i64) (.pair (.int .i64) (.pair (.int .i64) (.pair (.sl T101) (.pair (.sl (.int .i64)) (.pair (.sl T39) (.sl T61)))))))))))
abbrev z33 : S33 := (0, z25, 0, z27, 0, 0, 0, [], [], [], [])
abbrev S33.f0 (x : S33) : Int := x.1
abbrev S33.f1 (x : S33) : S25 := x.2.1
abbrev S33.f2 (x : S33) : Int := x.2.2.1
abbrev S33.f3 (x : S33) : S27 := x.2.2.2.1
abbrev S33.f4 (x : S33) : Int := x.2.2.2.2.1
abbrev S33.f5 (x : S33) : Int := x.2.2.2.2.2.1
abbrev S33.f6 (x : S33) : Int := x.2.2.2.2.2.2.1
abbrev S33.f7 (x : S33) : List S101 := x.2.2.2.2.2.2.2.1
abbrev S33.f8 (x : S33) : List Int := x.2.2.2.2.2.2.2.2.1
abbrev S33.f9 (x : S33) : List S39 := x.2.2.2.2.2.2.2.2.2.1
abbrev S33.f10 (x : S33) : List S61 := x.2.2.2.2.2.2.2.2.2.2
abbrev S145 := (List Int) × Int × Int
abbrev T145 : Ty := (.pair (.sl (.int .u8)) (.pair (.int .i64) (.int .i64)))
abbrev z145 : S145 := ([], 0, 0)
abbrev S145.f0 (x : S145) : List Int := x.1
abbrev S145.f1 (x : S145) : Int := x.2.1
abbrev S145.f2 (x : S145) : Int := x.2.2
abbrev S202 := Bool × Bool × Bool
abbrev T202 : Ty := (.pair .bool (.pair .bool .bool))
abbrev z202 : S202 := (false, false, false)
abbrev S202.f0 (x : S202) : Bool := x.1
abbrev S202.f1 (x : S202) : Bool := x.2.1
abbrev S202.f2 (x : S202) : Bool := x.2.2
abbrev rd (l : List Int) (i : Int) : Int := l.getD i.toNat 0
abbrev rd_str (l : List ByteArray) (i : Int) : ByteArray := l.getD i.toNat ByteArray.empty
abbrev rd_bool (l : List Bool) (i : Int) : Bool := l.getD i.toNat false
abbrev rd_T101 (l : List S101) (i : Int) : S101 := l.getD i.toNat z101
abbrev rd_T39 (l : List S39) (i : Int) : S39 := l.getD i.toNat z39
abbrev rd_T57 (l : List S57) (i : Int) : S57 := l.getD i.toNat z57
abbrev rd_T61 (l : List S61) (i : Int) : S61 := l.getD i.toNat z61
def TL : List (Nat × TI) := [
  (3, { k := .int .i64, size := 1, bytes := 8, ty := some (.int .i64), offs := [], zero := [.int .i64 0], eq := false }),
  (4, { k := .bool, size := 1, bytes := 1, ty := some .bool, offs := [], zero := [.lit false], eq := false }),
  (5, { k := .int .u8, size := 1, bytes := 1, ty := some (.int .u8), offs := [], zero := [.int .u8 0], eq := false }),
  (9, { k := .str, size := 1, bytes := 16, ty := some .str, offs := [], zero := [.str ByteArray.empty], eq := false }),
  (22, { k := .slice 5, size := 1, bytes := 24, ty := some (.sl (.int .u8)), offs := [], zero := [.nil], eq := false }),
  (25, { k := .struct, size := 3, bytes := 24, ty := some T25, offs := [(0, 1), (1, 1), (2, 1)], zero := [.int .i64 0, .int .i64 0, .int .i64 0], eq := false }),
  (27, { k := .struct, size := 7, bytes := 56, ty := some T27, offs := [(0, 1), (1, 1), (2, 1), (3, 1), (4, 1), (5, 1), (6, 1)], zero := [.int .i64 0, .int .i64 0, .int .i64 0, .int .i64 0, .int .i64 0, .int .i64 0, .int .i64 0], eq := false }),
  (28, { k := .slice 101, size := 1, bytes := 24, ty := some (.sl T101), offs := [], zero := [.nil], eq := false }),
  (29, { k := .slice 3, size := 1, bytes := 24, ty := some (.sl (.int .i64)), offs := [], zero := [.nil], eq := false }),
  (30, { k := .slice 39, size := 1, bytes := 24, ty := some (.sl T39), offs := [], zero := [.nil], eq := false }),
  (31, { k := .slice 61, size := 1, bytes := 24, ty := some (.sl T61), offs := [], zero := [.nil], eq := false }),
  (33, { k := .struct, size := 19, bytes := 216, ty := some T33, offs := [(0, 1), (1, 3), (4, 1), (5, 7), (12, 1), (13, 1), (14, 1), (15, 1), (16, 1), (17, 1), (18, 1)], zero := [.int .i64 0, .int .i64 0, .int .i64 0, .int .i64 0, .int .i64 0, .int .i64 0, .int .i64 0, .int .i64 0, .int .i64 0, .int .i64 0, .int .i64 0, .int .i64 0, .int .i64 0, .int .i64 0, .int .i64 0, .nil, .nil, .nil, .nil], eq := false }),
  (39, { k := .struct, size := 4, bytes := 32, ty := some T39, offs := [(0, 1), (1, 1), (2, 1), (3, 1)], zero := [.int .i64 0, .int .i64 0, .int .i64 0, .int .i64 0], eq := false }),
  (41, { k := .slice 57, size := 1, bytes := 24, ty := some (.sl T57), offs := [], zero := [.nil], eq := false }),
  (57, { k := .struct, size := 3, bytes := 24, ty := some T57, offs := [(0, 1), (1, 1), (2, 1)], zero := [.int .i64 0, .int .i64 0, .int .i64 0], eq := false }),
  (61, { k := .struct, size := 3, bytes := 24, ty := some T61, offs := [(0, 1), (1, 1), (2, 1)], zero := [.int .i64 0, .int .i64 0, .int .i64 0], eq := false }),
  (99, { k := .struct, size := 2, bytes := 16, ty := some T99, offs := [(0, 1), (1, 1)], zero := [.int .i64 0, .int .i64 0], eq := false }),
  (101, { k := .struct, size := 5, bytes := 64, ty := some T101, offs := [(0, 1), (1, 1), (2, 2), (4, 1)], zero := [.str ByteArray.empty, .int .i64 0, .int .i64 0, .int .i64 0, .nil], eq := false }),
  (145, { k := .struct, size := 3, bytes := 40, ty := some T145, offs := [(0, 1), (1, 1), (2, 1)], zero := [.nil, .int .i64 0, .int .i64 0], eq := false }),
  (146, { k := .slice 9, size := 1, bytes := 24, ty := some (.sl .str), offs := [], zero := [.nil], eq := false }),
  (183, { k := .arr 6 3, size := 6, bytes := 48, ty := none, offs := [(0, 1), (1, 1), (2, 1), (3, 1), (4, 1), (5, 1)], zero := [.int .i64 0, .int .i64 0, .int .i64 0, .int .i64 0, .int .i64 0, .int .i64 0], eq := false }),
  (202, { k := .struct, size := 3, bytes := 3, ty := some T202, offs := [(0, 1), (1, 1), (2, 1)], zero := [.lit false, .lit false, .lit false], eq := false })]
theorem tok : TOK Try.prog (lookT TL) := tok_of (by kernel_rfl)
theorem mix : Try.prog.follows .mixedOrders = true := by kernel_rfl
end
end Go.Proofs.Ytfmbebgpbgcpeaa.PPl
