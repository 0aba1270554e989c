/- Go functions as Lean functions, each with its contract. -/
import Derived.Test.YtgnhojiogkeepaaGreatChecked
import Derived.Test.YtgnhojiogkeepaaGreatV12
import Derived.Test.YtgnhojiogkeepaaGreatVR4
set_option linter.unusedVariables false
set_option maxRecDepth 100000
namespace Go.Proofs.YtgnhojiogkeepaaGreat.PMe
open Go Go.Proofs Go.RowKit Go.Proofs.YtgnhojiogkeepaaGreat.V
noncomputable section
abbrev S23 := Int × Int × Int
abbrev T23 : Ty := (.pair (.int .i64) (.pair (.int .i64) (.int .i64)))
abbrev z23 : S23 := (0, 0, 0)
abbrev S23.f0 (x : S23) : Int := x.1
abbrev S23.f1 (x : S23) : Int := x.2.1
abbrev S23.f2 (x : S23) : Int := x.2.2
abbrev S25 := Int × Int × Int × Int × Int × Int × Int
abbrev T25 : Ty := (.pair (.int .i64) (.pair (.int .i64) (.pair (.int .i64) (.pair (.int .i64) (.pair (.int .i64) (.pair (.int .i64) (.int .i64)))))))
abbrev z25 : S25 := (0, 0, 0, 0, 0, 0, 0)
abbrev S25.f0 (x : S25) : Int := x.1
abbrev S25.f1 (x : S25) : Int := x.2.1
abbrev S25.f2 (x : S25) : Int := x.2.2.1
abbrev S25.f3 (x : S25) : Int := x.2.2.2.1
abbrev S25.f4 (x : S25) : Int := x.2.2.2.2.1
abbrev S25.f5 (x : S25) : Int := x.2.2.2.2.2.1
abbrev S25.f6 (x : S25) : Int := x.2.2.2.2.2.2
abbrev S78 := Int × Int
abbrev T78 : Ty := (.pair (.int .i64) (.int .i64))
abbrev z78 : S78 := (0, 0)
abbrev S78.f0 (x : S78) : Int := x.1
abbrev S78.f1 (x : S78) : Int := x.2
abbrev S137 := Int × Int × Int
abbrev T137 : Ty := (.pair (.int .i64) (.pair (.int .i64) (.int .i64)))
abbrev z137 : S137 := (0, 0, 0)
abbrev S137.f0 (x : S137) : Int := x.1
abbrev S137.f1 (x : S137) : Int := x.2.1
abbrev S137.f2 (x : S137) : Int := x.2.2
abbrev S81 := ByteArray × Int × S78 × (List S137)
abbrev T81 : Ty := (.pair .str (.pair (.int .i64) (.pair T78 (.sl T137))))
abbrev z81 : S81 := (ByteArray.empty, 0, z78, [])
abbrev S81.f0 (x : S81) : ByteArray := x.1
abbrev S81.f1 (x : S81) : Int := x.2.1
abbrev S81.f2 (x : S81) : S78 := x.2.2.1
abbrev S81.f3 (x : S81) : List S137 := x.2.2.2
abbrev S90 := Int × Int × Int × Int
abbrev T90 : Ty := (.pair (.int .i64) (.pair (.int .i64) (.pair (.int .i64) (.int .i64))))
abbrev z90 : S90 := (0, 0, 0, 0)
abbrev S90.f0 (x : S90) : Int := x.1
abbrev S90.f1 (x : S90) : Int := x.2.1
abbrev S90.f2 (x : S90) : Int := x.2.2.1
abbrev S90.f3 (x : S90) : Int := x.2.2.2
abbrev S92 := Int × Int × Int
abbrev T92 : Ty := (.pair (.int .i64) (.pair (.int .i64) (.int .i64)))
abbrev z92 : S92 := (0, 0, 0)
abbrev S92.f0 (x : S92) : Int := x.1
abbrev S92.f1 (x : S92) : Int := x.2.1
abbrev S92.f2 (x : S92) : Int := x.2.2
abbrev S31 := Int × S23 × Int × S25 × Int × Int × Int × (List S81) × (List Int) × (List S90) × (List S92)
abbrev T31 : Ty := (.pair (.int .i64) (.pair T23 (.pair (.int .i64) (.pair T25 (.pair (.int .i64) (.pair (.int .i64) (.pair (.int .i64) (.pair (.sl T81) (.pair (.sl (.int .i64)) (.pair (.sl T90) (.sl T92)))))))))))
abbrev z31 : S31 := (0, z23, 0, z25, 0, 0, 0, [], [], [], [])
abbrev S31.f0 (x : S31) : Int := x.1
abbrev S31.f1 (x : S31) : S23 := x.2.1
abbrev S31.f2 (x : S31) : Int := x.2.2.1
abbrev S31.f3 (x : S31) : S25 := x.2.2.2.1
abbrev S31.f4 (x : S31) : Int := x.2.2.2.2.1
abbrev S31.f5 (x : S31) : Int := x.2.2.2.2.2.1
abbrev S31.f6 (x : S31) : Int := x.2.2.2.2.2.2.1
abbrev S31.f7 (x : S31) : List S81 := x.2.2.2.2.2.2.2.1
abbrev S31.f8 (x : S31) : List Int := x.2.2.2.2.2.2.2.2.1
abbrev S31.f9 (x : S31) : List S90 := x.2.2.2.2.2.2.2.2.2.1
abbrev S31.f10 (x : S31) : List S92 := x.2.2.2.2.2.2.2.2.2.2
abbrev S33 := Int × Int × Int
abbrev T33 : Ty := (.pair (.int .i64) (.pair (.int .i64) (.int .i64)))
abbrev z33 : S33 := (0, 0, 0)
abbrev S33.f0 (x : S33) : Int := x.1
abbrev S33.f1 (x : S33) : Int := x.2.1
abbrev S33.f2 (x : S33) : Int := x.2.2
abbrev S34 := Int × Int × Int × Int × Int × Int × Int
abbrev T34 : Ty := (.pair (.int .i64) (.pair (.int .i64) (.pair (.int .i64) (.pair (.int .i64) (.pair (.int .i64) (.pair (.int .i64) (.int .i64)))))))
abbrev z34 : S34 := (0, 0, 0, 0, 0, 0, 0)
abbrev S34.f0 (x : S34) : Int := x.1
abbrev S34.f1 (x : S34) : Int := x.2.1
abbrev S34.f2 (x : S34) : Int := x.2.2.1
abbrev S34.f3 (x : S34) : Int := x.2.2.2.1
abbrev S34.f4 (x : S34) : Int := x.2.2.2.2.1
abbrev S34.f5 (x : S34) : Int := x.2.2.2.2.2.1
abbrev S34.f6 (x : S34) : Int := x.2.2.2.2.2.2
abbrev S82 := Int × Int
abbrev T82 : Ty := (.pair (.int .i64) (.int .i64))
abbrev z82 : S82 := (0, 0)
abbrev S82.f0 (x : S82) : Int := x.1
abbrev S82.f1 (x : S82) : Int := x.2
abbrev S104 := Int × Int × Int
abbrev T104 : Ty := (.pair (.int .i64) (.pair (.int .i64) (.int .i64)))
abbrev z104 : S104 := (0, 0, 0)
abbrev S104.f0 (x : S104) : Int := x.1
abbrev S104.f1 (x : S104) : Int := x.2.1
abbrev S104.f2 (x : S104) : Int := x.2.2
abbrev S85 := ByteArray × Int × S82 × (List S104)
abbrev T85 : Ty := (.pair .str (.pair (.int .i64) (.pair T82 (.sl T104))))
abbrev z85 : S85 := (ByteArray.empty, 0, z82, [])
abbrev S85.f0 (x : S85) : ByteArray := x.1
abbrev S85.f1 (x : S85) : Int := x.2.1
abbrev S85.f2 (x : S85) : S82 := x.2.2.1
abbrev S85.f3 (x : S85) : List S104 := x.2.2.2
abbrev S88 := Int × Int × Int × Int
abbrev T88 : Ty := (.pair (.int .i64) (.pair (.int .i64) (.pair (.int .i64) (.int .i64))))
abbrev z88 : S88 := (0, 0, 0, 0)
abbrev S88.f0 (x : S88) : Int := x.1
abbrev S88.f1 (x : S88) : Int := x.2.1
abbrev S88.f2 (x : S88) : Int := x.2.2.1
abbrev S88.f3 (x : S88) : Int := x.2.2.2
abbrev S55 := Int × Int × Int
abbrev T55 : Ty := (.pair (.int .i64) (.pair (.int .i64) (.int .i64)))
abbrev z55 : S55 := (0, 0, 0)
abbrev S55.f0 (x : S55) : Int := x.1
abbrev S55.f1 (x : S55) : Int := x.2.1
abbrev S55.f2 (x : S55) : Int := x.2.2
abbrev S39 := Int × S33 × Int × S34 × Int × Int × Int × (List S85) × (List Int) × (List S88) × (List S55)
abbrev T39 : Ty := (.pair (.int .i64) (.pair T33 (.pair (.int .i64) (.pair T34 (.pair (.int .i64) (.pair (.int .i64) (.pair (.int .i64) (.pair (.sl T85) (.pair (.sl (.int .i64)) (.pair (.sl T88) (.sl T55)))))))))))
abbrev z39 : S39 := (0, z33, 0, z34, 0, 0, 0, [], [], [], [])
abbrev S39.f0 (x : S39) : Int := x.1
abbrev S39.f1 (x : S39) : S33 := x.2.1
abbrev S39.f2 (x : S39) : Int := x.2.2.1
abbrev S39.f3 (x : S39) : S34 := x.2.2.2.1
abbrev S39.f4 (x : S39) : Int := x.2.2.2.2.1
abbrev S39.f5 (x : S39) : Int := x.2.2.2.2.2.1
abbrev S39.f6 (x : S39) : Int := x.2.2.2.2.2.2.1
abbrev S39.f7 (x : S39) : List S85 := x.2.2.2.2.2.2.2.1
abbrev S39.f8 (x : S39) : List Int := x.2.2.2.2.2.2.2.2.1
abbrev S39.f9 (x : S39) : List S88 := x.2.2.2.2.2.2.2.2.2.1
abbrev S39.f10 (x : S39) : List S55 := x.2.2.2.2.2.2.2.2.2.2
abbrev S140 := Bool × Bool × Bool
abbrev T140 : Ty := (.pair .bool (.pair .bool .bool))
abbrev z140 : S140 := (false, false, false)
abbrev S140.f0 (x : S140) : Bool := x.1
abbrev S140.f1 (x : S140) : Bool := x.2.1
abbrev S140.f2 (x : S140) : Bool := x.2.2
abbrev rd (l : List Int) (i : Int) : Int := l.getD i.toNat 0
abbrev rd_str (l : List ByteArray) (i : Int) : ByteArray := l.getD i.toNat ByteArray.empty
abbrev rd_bool (l : List Bool) (i : Int) : Bool := l.getD i.toNat false
abbrev rd_T104 (l : List S104) (i : Int) : S104 := l.getD i.toNat z104
abbrev rd_T137 (l : List S137) (i : Int) : S137 := l.getD i.toNat z137
abbrev rd_T55 (l : List S55) (i : Int) : S55 := l.getD i.toNat z55
abbrev rd_T81 (l : List S81) (i : Int) : S81 := l.getD i.toNat z81
abbrev rd_T85 (l : List S85) (i : Int) : S85 := l.getD i.toNat z85
abbrev rd_T88 (l : List S88) (i : Int) : S88 := l.getD i.toNat z88
abbrev rd_T90 (l : List S90) (i : Int) : S90 := l.getD i.toNat z90
abbrev rd_T92 (l : List S92) (i : Int) : S92 := l.getD i.toNat z92
def TL : List (Nat × TI) := [
  (3, { k := .int .i64, size := 1, bytes := 8, ty := some (.int .i64), offs := [], zero := [.int .i64 0], eq := false }),
  (4, { k := .bool, size := 1, bytes := 1, ty := some .bool, offs := [], zero := [.lit false], eq := false }),
  (5, { k := .int .u8, size := 1, bytes := 1, ty := some (.int .u8), offs := [], zero := [.int .u8 0], eq := false }),
  (9, { k := .str, size := 1, bytes := 16, ty := some .str, offs := [], zero := [.str ByteArray.empty], eq := false }),
  (23, { k := .struct, size := 3, bytes := 24, ty := some T23, offs := [(0, 1), (1, 1), (2, 1)], zero := [.int .i64 0, .int .i64 0, .int .i64 0], eq := false }),
  (25, { k := .struct, size := 7, bytes := 56, ty := some T25, offs := [(0, 1), (1, 1), (2, 1), (3, 1), (4, 1), (5, 1), (6, 1)], zero := [.int .i64 0, .int .i64 0, .int .i64 0, .int .i64 0, .int .i64 0, .int .i64 0, .int .i64 0], eq := false }),
  (26, { k := .slice 81, size := 1, bytes := 24, ty := some (.sl T81), offs := [], zero := [.nil], eq := false }),
  (27, { k := .slice 3, size := 1, bytes := 24, ty := some (.sl (.int .i64)), offs := [], zero := [.nil], eq := false }),
  (28, { k := .slice 90, size := 1, bytes := 24, ty := some (.sl T90), offs := [], zero := [.nil], eq := false }),
  (29, { k := .slice 92, size := 1, bytes := 24, ty := some (.sl T92), offs := [], zero := [.nil], eq := false }),
  (31, { k := .struct, size := 19, bytes := 216, ty := some T31, offs := [(0, 1), (1, 3), (4, 1), (5, 7), (12, 1), (13, 1), (14, 1), (15, 1), (16, 1), (17, 1), (18, 1)], zero := [.int .i64 0, .int .i64 0, .int .i64 0, .int .i64 0, .int .i64 0, .int .i64 0, .int .i64 0, .int .i64 0, .int .i64 0, .int .i64 0, .int .i64 0, .int .i64 0, .int .i64 0, .int .i64 0, .int .i64 0, .nil, .nil, .nil, .nil], eq := false }),
  (33, { k := .struct, size := 3, bytes := 24, ty := some T33, offs := [(0, 1), (1, 1), (2, 1)], zero := [.int .i64 0, .int .i64 0, .int .i64 0], eq := false }),
  (34, { k := .struct, size := 7, bytes := 56, ty := some T34, offs := [(0, 1), (1, 1), (2, 1), (3, 1), (4, 1), (5, 1), (6, 1)], zero := [.int .i64 0, .int .i64 0, .int .i64 0, .int .i64 0, .int .i64 0, .int .i64 0, .int .i64 0], eq := false }),
  (35, { k := .slice 85, size := 1, bytes := 24, ty := some (.sl T85), offs := [], zero := [.nil], eq := false }),
  (36, { k := .slice 88, size := 1, bytes := 24, ty := some (.sl T88), offs := [], zero := [.nil], eq := false }),
  (37, { k := .slice 55, size := 1, bytes := 24, ty := some (.sl T55), offs := [], zero := [.nil], eq := false }),
  (39, { k := .struct, size := 19, bytes := 216, ty := some T39, offs := [(0, 1), (1, 3), (4, 1), (5, 7), (12, 1), (13, 1), (14, 1), (15, 1), (16, 1), (17, 1), (18, 1)], zero := [.int .i64 0, .int .i64 0, .int .i64 0, .int .i64 0, .int .i64 0, .int .i64 0, .int .i64 0, .int .i64 0, .int .i64 0, .int .i64 0, .int .i64 0, .int .i64 0, .int .i64 0, .int .i64 0, .int .i64 0, .nil, .nil, .nil, .nil], eq := false }),
  (55, { k := .struct, size := 3, bytes := 24, ty := some T55, offs := [(0, 1), (1, 1), (2, 1)], zero := [.int .i64 0, .int .i64 0, .int .i64 0], eq := false }),
  (78, { k := .struct, size := 2, bytes := 16, ty := some T78, offs := [(0, 1), (1, 1)], zero := [.int .i64 0, .int .i64 0], eq := false }),
  (79, { k := .slice 137, size := 1, bytes := 24, ty := some (.sl T137), offs := [], zero := [.nil], eq := false }),
  (81, { k := .struct, size := 5, bytes := 64, ty := some T81, offs := [(0, 1), (1, 1), (2, 2), (4, 1)], zero := [.str ByteArray.empty, .int .i64 0, .int .i64 0, .int .i64 0, .nil], eq := false }),
  (82, { k := .struct, size := 2, bytes := 16, ty := some T82, offs := [(0, 1), (1, 1)], zero := [.int .i64 0, .int .i64 0], eq := false }),
  (83, { k := .slice 104, size := 1, bytes := 24, ty := some (.sl T104), offs := [], zero := [.nil], eq := false }),
  (85, { k := .struct, size := 5, bytes := 64, ty := some T85, offs := [(0, 1), (1, 1), (2, 2), (4, 1)], zero := [.str ByteArray.empty, .int .i64 0, .int .i64 0, .int .i64 0, .nil], eq := false }),
  (88, { k := .struct, size := 4, bytes := 32, ty := some T88, offs := [(0, 1), (1, 1), (2, 1), (3, 1)], zero := [.int .i64 0, .int .i64 0, .int .i64 0, .int .i64 0], eq := false }),
  (90, { k := .struct, size := 4, bytes := 32, ty := some T90, offs := [(0, 1), (1, 1), (2, 1), (3, 1)], zero := [.int .i64 0, .int .i64 0, .int .i64 0, .int .i64 0], eq := false }),
  (92, { k := .struct, size := 3, bytes := 24, ty := some T92, offs := [(0, 1), (1, 1), (2, 1)], zero := [.int .i64 0, .int .i64 0, .int .i64 0], eq := false }),
  (104, { k := .struct, size := 3, bytes := 24, ty := some T104, offs := [(0, 1), (1, 1), (2, 1)], zero := [.int .i64 0, .int .i64 0, .int .i64 0], eq := false }),
  (119, { k := .arr 6 3, size := 6, bytes := 48, ty := none, offs := [(0, 1), (1, 1), (2, 1), (3, 1), (4, 1), (5, 1)], zero := [.int .i64 0, .int .i64 0, .int .i64 0, .int .i64 0, .int .i64 0, .int .i64 0], eq := false }),
  (133, { k := .slice 5, size := 1, bytes := 24, ty := some (.sl (.int .u8)), offs := [], zero := [.nil], eq := false }),
  (137, { k := .struct, size := 3, bytes := 24, ty := some T137, offs := [(0, 1), (1, 1), (2, 1)], zero := [.int .i64 0, .int .i64 0, .int .i64 0], eq := false }),
  (140, { k := .struct, size := 3, bytes := 3, ty := some T140, offs := [(0, 1), (1, 1), (2, 1)], zero := [.lit false, .lit false, .lit false], eq := false })]
theorem tok : TOK Tryz.prog (lookT TL) := tok_of (by kernel_rfl)
theorem mix : Tryz.prog.follows .mixedOrders = true := by kernel_rfl
end
end Go.Proofs.YtgnhojiogkeepaaGreat.PMe
