/- Go functions as Lean functions, each with its contract. -/
import Derived.Test.YtcjfheidmlcbfaaGreatDoorChecked
import Derived.Test.YtcjfheidmlcbfaaGreatDoorSV12
import Derived.Test.YtcjfheidmlcbfaaGreatDoorSVB2
import Derived.Test.YtcjfheidmlcbfaaGreatDoorSVG
import Derived.Test.YtcjfheidmlcbfaaGreatDoorSVGD
import Derived.Test.YtcjfheidmlcbfaaGreatDoorSVGS
set_option linter.unusedVariables false
set_option maxRecDepth 100000
namespace Go.Proofs.YtcjfheidmlcbfaaGreatDoor.PSr
open Go Go.Proofs Go.RowKit Go.Proofs.YtcjfheidmlcbfaaGreatDoor.V
noncomputable section
abbrev S25 := Int × Int × Int
abbrev T25 : Ty := (.pair (.int .i64) (.pair (.int .i64) (.int .i64)))
abbrev z25 : S25 := (0, 0, 0)
abbrev S25.f0 (x : S25) : Int := x.1
abbrev S25.f1 (x : S25) : Int := x.2.1
abbrev S25.f2 (x : S25) : Int := x.2.2
abbrev S27 := Int × Int × Int × Int × Int × Int × Int
abbrev T27 : Ty := (.pair (.int .i64) (.pair (.int .i64) (.pair (.int .i64) (.pair (.int .i64) (.pair (.int .i64) (.pair (.int .i64) (.int .i64)))))))
abbrev z27 : S27 := (0, 0, 0, 0, 0, 0, 0)
abbrev S27.f0 (x : S27) : Int := x.1
abbrev S27.f1 (x : S27) : Int := x.2.1
abbrev S27.f2 (x : S27) : Int := x.2.2.1
abbrev S27.f3 (x : S27) : Int := x.2.2.2.1
abbrev S27.f4 (x : S27) : Int := x.2.2.2.2.1
abbrev S27.f5 (x : S27) : Int := x.2.2.2.2.2.1
abbrev S27.f6 (x : S27) : Int := x.2.2.2.2.2.2
abbrev S68 := Int × Int
abbrev T68 : Ty := (.pair (.int .i64) (.int .i64))
abbrev z68 : S68 := (0, 0)
abbrev S68.f0 (x : S68) : Int := x.1
abbrev S68.f1 (x : S68) : Int := x.2
abbrev S66 := Int × Int × Int
abbrev T66 : Ty := (.pair (.int .i64) (.pair (.int .i64) (.int .i64)))
abbrev z66 : S66 := (0, 0, 0)
abbrev S66.f0 (x : S66) : Int := x.1
abbrev S66.f1 (x : S66) : Int := x.2.1
abbrev S66.f2 (x : S66) : Int := x.2.2
abbrev S71 := ByteArray × Int × S68 × (List S66)
abbrev T71 : Ty := (.pair .str (.pair (.int .i64) (.pair T68 (.sl T66))))
abbrev z71 : S71 := (ByteArray.empty, 0, z68, [])
abbrev S71.f0 (x : S71) : ByteArray := x.1
abbrev S71.f1 (x : S71) : Int := x.2.1
abbrev S71.f2 (x : S71) : S68 := x.2.2.1
abbrev S71.f3 (x : S71) : List S66 := x.2.2.2
abbrev S77 := Int × Int × Int × Int
abbrev T77 : Ty := (.pair (.int .i64) (.pair (.int .i64) (.pair (.int .i64) (.int .i64))))
abbrev z77 : S77 := (0, 0, 0, 0)
abbrev S77.f0 (x : S77) : Int := x.1
abbrev S77.f1 (x : S77) : Int := x.2.1
abbrev S77.f2 (x : S77) : Int := x.2.2.1
abbrev S77.f3 (x : S77) : Int := x.2.2.2
abbrev S182 := Int × Int × Int
abbrev T182 : Ty := (.pair (.int .i64) (.pair (.int .i64) (.int .i64)))
abbrev z182 : S182 := (0, 0, 0)
abbrev S182.f0 (x : S182) : Int := x.1
abbrev S182.f1 (x : S182) : Int := x.2.1
abbrev S182.f2 (x : S182) : Int := x.2.2
abbrev S33 := Int × S25 × Int × S27 × Int × Int × Int × (List S71) × (List Int) × (List S77) × (List S182)
abbrev T33 : Ty := (.pair (.int .i64) (.pair T25 (.pair (.int .i64) (.pair T27 (.pair (.int .i64) (.pair (.int .i64) (.pair (.int .i64) (.pair (.sl T71) (.pair (.sl (.int .i64)) (.pair (.sl T77) (.sl T182)))))))))))
abbrev z33 : S33 := (0, z25, 0, z27, 0, 0, 0, [], [], [], [])
abbrev S33.f0 (x : S33) : Int := x.1
abbrev S33.f1 (x : S33) : S25 := x.2.1
abbrev S33.f2 (x : S33) : Int := x.2.2.1
abbrev S33.f3 (x : S33) : S27 := x.2.2.2.1
abbrev S33.f4 (x : S33) : Int := x.2.2.2.2.1
abbrev S33.f5 (x : S33) : Int := x.2.2.2.2.2.1
abbrev S33.f6 (x : S33) : Int := x.2.2.2.2.2.2.1
abbrev S33.f7 (x : S33) : List S71 := x.2.2.2.2.2.2.2.1
abbrev S33.f8 (x : S33) : List Int := x.2.2.2.2.2.2.2.2.1
abbrev S33.f9 (x : S33) : List S77 := x.2.2.2.2.2.2.2.2.2.1
abbrev S33.f10 (x : S33) : List S182 := x.2.2.2.2.2.2.2.2.2.2
abbrev S85 := Int × Int × Int
abbrev T85 : Ty := (.pair (.int .i64) (.pair (.int .i64) (.int .u32)))
abbrev z85 : S85 := (0, 0, 0)
abbrev S85.f0 (x : S85) : Int := x.1
abbrev S85.f1 (x : S85) : Int := x.2.1
abbrev S85.f2 (x : S85) : Int := x.2.2
abbrev S162 := (List Int) × Int × Int
abbrev T162 : Ty := (.pair (.sl (.int .u8)) (.pair (.int .i64) (.int .i64)))
abbrev z162 : S162 := ([], 0, 0)
abbrev S162.f0 (x : S162) : List Int := x.1
abbrev S162.f1 (x : S162) : Int := x.2.1
abbrev S162.f2 (x : S162) : Int := x.2.2
abbrev S233 := Bool × Bool × Bool
abbrev T233 : Ty := (.pair .bool (.pair .bool .bool))
abbrev z233 : S233 := (false, false, false)
abbrev S233.f0 (x : S233) : Bool := x.1
abbrev S233.f1 (x : S233) : Bool := x.2.1
abbrev S233.f2 (x : S233) : Bool := x.2.2
abbrev S264 := Int × Int × Int × Int × Int
abbrev T264 : Ty := (.pair (.int .i64) (.pair (.int .i64) (.pair (.int .i64) (.pair (.int .i64) (.int .i64)))))
abbrev z264 : S264 := (0, 0, 0, 0, 0)
abbrev S264.f0 (x : S264) : Int := x.1
abbrev S264.f1 (x : S264) : Int := x.2.1
abbrev S264.f2 (x : S264) : Int := x.2.2.1
abbrev S264.f3 (x : S264) : Int := x.2.2.2.1
abbrev S264.f4 (x : S264) : Int := x.2.2.2.2
abbrev rd (l : List Int) (i : Int) : Int := l.getD i.toNat 0
abbrev rd_str (l : List ByteArray) (i : Int) : ByteArray := l.getD i.toNat ByteArray.empty
abbrev rd_bool (l : List Bool) (i : Int) : Bool := l.getD i.toNat false
abbrev rd_T182 (l : List S182) (i : Int) : S182 := l.getD i.toNat z182
abbrev rd_T66 (l : List S66) (i : Int) : S66 := l.getD i.toNat z66
abbrev rd_T71 (l : List S71) (i : Int) : S71 := l.getD i.toNat z71
abbrev rd_T77 (l : List S77) (i : Int) : S77 := l.getD i.toNat z77
abbrev rd_T85 (l : List S85) (i : Int) : S85 := l.getD i.toNat z85
def TL : List (Nat × TI) := [
  (3, { k := .int .i64, size := 1, bytes := 8, ty := some (.int .i64), offs := [], zero := [.int .i64 0], eq := false }),
  (4, { k := .bool, size := 1, bytes := 1, ty := some .bool, offs := [], zero := [.lit false], eq := false }),
  (5, { k := .int .u8, size := 1, bytes := 1, ty := some (.int .u8), offs := [], zero := [.int .u8 0], eq := false }),
  (9, { k := .str, size := 1, bytes := 16, ty := some .str, offs := [], zero := [.str ByteArray.empty], eq := false }),
  (22, { k := .slice 5, size := 1, bytes := 24, ty := some (.sl (.int .u8)), offs := [], zero := [.nil], eq := false }),
  (25, { k := .struct, size := 3, bytes := 24, ty := some T25, offs := [(0, 1), (1, 1), (2, 1)], zero := [.int .i64 0, .int .i64 0, .int .i64 0], eq := false }),
  (27, { k := .struct, size := 7, bytes := 56, ty := some T27, offs := [(0, 1), (1, 1), (2, 1), (3, 1), (4, 1), (5, 1), (6, 1)], zero := [.int .i64 0, .int .i64 0, .int .i64 0, .int .i64 0, .int .i64 0, .int .i64 0, .int .i64 0], eq := false }),
  (28, { k := .slice 71, size := 1, bytes := 24, ty := some (.sl T71), offs := [], zero := [.nil], eq := false }),
  (29, { k := .slice 3, size := 1, bytes := 24, ty := some (.sl (.int .i64)), offs := [], zero := [.nil], eq := false }),
  (30, { k := .slice 77, size := 1, bytes := 24, ty := some (.sl T77), offs := [], zero := [.nil], eq := false }),
  (31, { k := .slice 182, size := 1, bytes := 24, ty := some (.sl T182), offs := [], zero := [.nil], eq := false }),
  (33, { k := .struct, size := 19, bytes := 216, ty := some T33, offs := [(0, 1), (1, 3), (4, 1), (5, 7), (12, 1), (13, 1), (14, 1), (15, 1), (16, 1), (17, 1), (18, 1)], zero := [.int .i64 0, .int .i64 0, .int .i64 0, .int .i64 0, .int .i64 0, .int .i64 0, .int .i64 0, .int .i64 0, .int .i64 0, .int .i64 0, .int .i64 0, .int .i64 0, .int .i64 0, .int .i64 0, .int .i64 0, .nil, .nil, .nil, .nil], eq := false }),
  (34, { k := .slice 47, size := 1, bytes := 24, ty := some (.sl (.sl (.sl (.int .u8)))), offs := [], zero := [.nil], eq := false }),
  (35, { k := .slice 85, size := 1, bytes := 24, ty := some (.sl T85), offs := [], zero := [.nil], eq := false }),
  (45, { k := .slice 46, size := 1, bytes := 24, ty := some (.sl (.int .u32)), offs := [], zero := [.nil], eq := false }),
  (46, { k := .int .u32, size := 1, bytes := 4, ty := some (.int .u32), offs := [], zero := [.int .u32 0], eq := false }),
  (47, { k := .slice 22, size := 1, bytes := 24, ty := some (.sl (.sl (.int .u8))), offs := [], zero := [.nil], eq := false }),
  (66, { k := .struct, size := 3, bytes := 24, ty := some T66, offs := [(0, 1), (1, 1), (2, 1)], zero := [.int .i64 0, .int .i64 0, .int .i64 0], eq := false }),
  (68, { k := .struct, size := 2, bytes := 16, ty := some T68, offs := [(0, 1), (1, 1)], zero := [.int .i64 0, .int .i64 0], eq := false }),
  (69, { k := .slice 66, size := 1, bytes := 24, ty := some (.sl T66), offs := [], zero := [.nil], eq := false }),
  (71, { k := .struct, size := 5, bytes := 64, ty := some T71, offs := [(0, 1), (1, 1), (2, 2), (4, 1)], zero := [.str ByteArray.empty, .int .i64 0, .int .i64 0, .int .i64 0, .nil], eq := false }),
  (77, { k := .struct, size := 4, bytes := 32, ty := some T77, offs := [(0, 1), (1, 1), (2, 1), (3, 1)], zero := [.int .i64 0, .int .i64 0, .int .i64 0, .int .i64 0], eq := false }),
  (85, { k := .struct, size := 3, bytes := 24, ty := some T85, offs := [(0, 1), (1, 1), (2, 1)], zero := [.int .i64 0, .int .i64 0, .int .u32 0], eq := true }),
  (111, { k := .bld 5, size := 2, bytes := 32, ty := none, offs := [], zero := [.undef, .nil], eq := false }),
  (118, { k := .slice 9, size := 1, bytes := 24, ty := some (.sl .str), offs := [], zero := [.nil], eq := false }),
  (162, { k := .struct, size := 3, bytes := 40, ty := some T162, offs := [(0, 1), (1, 1), (2, 1)], zero := [.nil, .int .i64 0, .int .i64 0], eq := false }),
  (182, { k := .struct, size := 3, bytes := 24, ty := some T182, offs := [(0, 1), (1, 1), (2, 1)], zero := [.int .i64 0, .int .i64 0, .int .i64 0], eq := false }),
  (193, { k := .arr 6 3, size := 6, bytes := 48, ty := none, offs := [(0, 1), (1, 1), (2, 1), (3, 1), (4, 1), (5, 1)], zero := [.int .i64 0, .int .i64 0, .int .i64 0, .int .i64 0, .int .i64 0, .int .i64 0], eq := false }),
  (233, { k := .struct, size := 3, bytes := 3, ty := some T233, offs := [(0, 1), (1, 1), (2, 1)], zero := [.lit false, .lit false, .lit false], eq := false }),
  (264, { k := .struct, size := 5, bytes := 40, ty := some T264, offs := [(0, 1), (1, 1), (2, 1), (3, 1), (4, 1)], zero := [.int .i64 0, .int .i64 0, .int .i64 0, .int .i64 0, .int .i64 0], eq := false })]
theorem tok : TOK Tryz.prog (lookT TL) := tok_of (by kernel_rfl)
theorem mix : Tryz.prog.follows .mixedOrders = true := by kernel_rfl
end
end Go.Proofs.YtcjfheidmlcbfaaGreatDoor.PSr
