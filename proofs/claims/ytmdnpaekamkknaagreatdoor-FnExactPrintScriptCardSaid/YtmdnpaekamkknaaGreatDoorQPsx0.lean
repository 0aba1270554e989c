/- Go functions as Lean functions, each with its contract. -/
import Derived.Test.YtmdnpaekamkknaaGreatDoorChecked
import Derived.Test.YtmdnpaekamkknaaGreatDoorV12
import Derived.Test.YtmdnpaekamkknaaGreatDoorVB2
import Derived.Test.YtmdnpaekamkknaaGreatDoorVG
set_option linter.unusedVariables false
set_option maxRecDepth 100000
namespace Go.Proofs.YtmdnpaekamkknaaGreatDoor.PPs
open Go Go.Proofs Go.RowKit Go.Proofs.YtmdnpaekamkknaaGreatDoor.V
noncomputable section
abbrev S23 := Int × Int × Int
abbrev T23 : Ty := (.pair (.int .i64) (.pair (.int .i64) (.int .i64)))
abbrev z23 : S23 := (0, 0, 0)
abbrev S23.f0 (x : S23) : Int := x.1
abbrev S23.f1 (x : S23) : Int := x.2.1
abbrev S23.f2 (x : S23) : Int := x.2.2
abbrev S25 := Int × Int × Int × Int × Int × Int × Int
abbrev T25 : Ty := (.pair (.int .i64) (.pair (.int .i64) (.pair (.int .i64) (.pair (.int .i64) (.pair (.int .i64) (.pair (.int .i64) (.int .i64)))))))
abbrev z25 : S25 := (0, 0, 0, 0, 0, 0, 0)
abbrev S25.f0 (x : S25) : Int := x.1
abbrev S25.f1 (x : S25) : Int := x.2.1
abbrev S25.f2 (x : S25) : Int := x.2.2.1
abbrev S25.f3 (x : S25) : Int := x.2.2.2.1
abbrev S25.f4 (x : S25) : Int := x.2.2.2.2.1
abbrev S25.f5 (x : S25) : Int := x.2.2.2.2.2.1
abbrev S25.f6 (x : S25) : Int := x.2.2.2.2.2.2
abbrev S91 := Int × Int
abbrev T91 : Ty := (.pair (.int .i64) (.int .i64))
abbrev z91 : S91 := (0, 0)
abbrev S91.f0 (x : S91) : Int := x.1
abbrev S91.f1 (x : S91) : Int := x.2
abbrev S143 := Int × Int × Int
abbrev T143 : Ty := (.pair (.int .i64) (.pair (.int .i64) (.int .i64)))
abbrev z143 : S143 := (0, 0, 0)
abbrev S143.f0 (x : S143) : Int := x.1
abbrev S143.f1 (x : S143) : Int := x.2.1
abbrev S143.f2 (x : S143) : Int := x.2.2
abbrev S94 := ByteArray × Int × S91 × (List S143)
abbrev T94 : Ty := (.pair .str (.pair (.int .i64) (.pair T91 (.sl T143))))
abbrev z94 : S94 := (ByteArray.empty, 0, z91, [])
abbrev S94.f0 (x : S94) : ByteArray := x.1
abbrev S94.f1 (x : S94) : Int := x.2.1
abbrev S94.f2 (x : S94) : S91 := x.2.2.1
abbrev S94.f3 (x : S94) : List S143 := x.2.2.2
abbrev S100 := Int × Int × Int × Int
abbrev T100 : Ty := (.pair (.int .i64) (.pair (.int .i64) (.pair (.int .i64) (.int .i64))))
abbrev z100 : S100 := (0, 0, 0, 0)
abbrev S100.f0 (x : S100) : Int := x.1
abbrev S100.f1 (x : S100) : Int := x.2.1
abbrev S100.f2 (x : S100) : Int := x.2.2.1
abbrev S100.f3 (x : S100) : Int := x.2.2.2
abbrev S104 := Int × Int × Int
abbrev T104 : Ty := (.pair (.int .i64) (.pair (.int .i64) (.int .i64)))
abbrev z104 : S104 := (0, 0, 0)
abbrev S104.f0 (x : S104) : Int := x.1
abbrev S104.f1 (x : S104) : Int := x.2.1
abbrev S104.f2 (x : S104) : Int := x.2.2
abbrev S31 := Int × S23 × Int × S25 × Int × Int × Int × (List S94) × (List Int) × (List S100) × (List S104)
abbrev T31 : Ty := (.pair (.int .i64) (.pair T23 (.pair (.int .i64) (.pair T25 (.pair (.int .i64) (.pair (.int .i64) (.pair (.int .i64) (.pair (.sl T94) (.pair (.sl (.int .i64)) (.pair (.sl T100) (.sl T104)))))))))))
abbrev z31 : S31 := (0, z23, 0, z25, 0, 0, 0, [], [], [], [])
abbrev S31.f0 (x : S31) : Int := x.1
abbrev S31.f1 (x : S31) : S23 := x.2.1
abbrev S31.f2 (x : S31) : Int := x.2.2.1
abbrev S31.f3 (x : S31) : S25 := x.2.2.2.1
abbrev S31.f4 (x : S31) : Int := x.2.2.2.2.1
abbrev S31.f5 (x : S31) : Int := x.2.2.2.2.2.1
abbrev S31.f6 (x : S31) : Int := x.2.2.2.2.2.2.1
abbrev S31.f7 (x : S31) : List S94 := x.2.2.2.2.2.2.2.1
abbrev S31.f8 (x : S31) : List Int := x.2.2.2.2.2.2.2.2.1
abbrev S31.f9 (x : S31) : List S100 := x.2.2.2.2.2.2.2.2.2.1
abbrev S31.f10 (x : S31) : List S104 := x.2.2.2.2.2.2.2.2.2.2
abbrev S37 := Int × Int × Int
abbrev T37 : Ty := (.pair (.int .i64) (.pair (.int .i64) (.int .i64)))
abbrev z37 : S37 := (0, 0, 0)
abbrev S37.f0 (x : S37) : Int := x.1
abbrev S37.f1 (x : S37) : Int := x.2.1
abbrev S37.f2 (x : S37) : Int := x.2.2
abbrev S38 := Int × Int × Int × Int × Int × Int × Int
abbrev T38 : Ty := (.pair (.int .i64) (.pair (.int .i64) (.pair (.int .i64) (.pair (.int .i64) (.pair (.int .i64) (.pair (.int .i64) (.int .i64)))))))
abbrev z38 : S38 := (0, 0, 0, 0, 0, 0, 0)
abbrev S38.f0 (x : S38) : Int := x.1
abbrev S38.f1 (x : S38) : Int := x.2.1
abbrev S38.f2 (x : S38) : Int := x.2.2.1
abbrev S38.f3 (x : S38) : Int := x.2.2.2.1
abbrev S38.f4 (x : S38) : Int := x.2.2.2.2.1
abbrev S38.f5 (x : S38) : Int := x.2.2.2.2.2.1
abbrev S38.f6 (x : S38) : Int := x.2.2.2.2.2.2
abbrev S61 := Int × Int
abbrev T61 : Ty := (.pair (.int .i64) (.int .i64))
abbrev z61 : S61 := (0, 0)
abbrev S61.f0 (x : S61) : Int := x.1
abbrev S61.f1 (x : S61) : Int := x.2
abbrev S122 := Int × Int × Int
abbrev T122 : Ty := (.pair (.int .i64) (.pair (.int .i64) (.int .i64)))
abbrev z122 : S122 := (0, 0, 0)
abbrev S122.f0 (x : S122) : Int := x.1
abbrev S122.f1 (x : S122) : Int := x.2.1
abbrev S122.f2 (x : S122) : Int := x.2.2
abbrev S64 := ByteArray × Int × S61 × (List S122)
abbrev T64 : Ty := (.pair .str (.pair (.int .i64) (.pair T61 (.sl T122))))
abbrev z64 : S64 := (ByteArray.empty, 0, z61, [])
abbrev S64.f0 (x : S64) : ByteArray := x.1
abbrev S64.f1 (x : S64) : Int := x.2.1
abbrev S64.f2 (x : S64) : S61 := x.2.2.1
abbrev S64.f3 (x : S64) : List S122 := x.2.2.2
abbrev S98 := Int × Int × Int × Int
abbrev T98 : Ty := (.pair (.int .i64) (.pair (.int .i64) (.pair (.int .i64) (.int .i64))))
abbrev z98 : S98 := (0, 0, 0, 0)
abbrev S98.f0 (x : S98) : Int := x.1
abbrev S98.f1 (x : S98) : Int := x.2.1
abbrev S98.f2 (x : S98) : Int := x.2.2.1
abbrev S98.f3 (x : S98) : Int := x.2.2.2
abbrev S102 := Int × Int × Int
abbrev T102 : Ty := (.pair (.int .i64) (.pair (.int .i64) (.int .i64)))
abbrev z102 : S102 := (0, 0, 0)
abbrev S102.f0 (x : S102) : Int := x.1
abbrev S102.f1 (x : S102) : Int := x.2.1
abbrev S102.f2 (x : S102) : Int := x.2.2
abbrev S43 := Int × S37 × Int × S38 × Int × Int × Int × (List S64) × (List Int) × (List S98) × (List S102)
abbrev T43 : Ty := (.pair (.int .i64) (.pair T37 (.pair (.int .i64) (.pair T38 (.pair (.int .i64) (.pair (.int .i64) (.pair (.int .i64) (.pair (.sl T64) (.pair (.sl (.int .i64)) (.pair (.sl T98) (.sl T102)))))))))))
abbrev z43 : S43 := (0, z37, 0, z38, 0, 0, 0, [], [], [], [])
abbrev S43.f0 (x : S43) : Int := x.1
abbrev S43.f1 (x : S43) : S37 := x.2.1
abbrev S43.f2 (x : S43) : Int := x.2.2.1
abbrev S43.f3 (x : S43) : S38 := x.2.2.2.1
abbrev S43.f4 (x : S43) : Int := x.2.2.2.2.1
abbrev S43.f5 (x : S43) : Int := x.2.2.2.2.2.1
abbrev S43.f6 (x : S43) : Int := x.2.2.2.2.2.2.1
abbrev S43.f7 (x : S43) : List S64 := x.2.2.2.2.2.2.2.1
abbrev S43.f8 (x : S43) : List Int := x.2.2.2.2.2.2.2.2.1
abbrev S43.f9 (x : S43) : List S98 := x.2.2.2.2.2.2.2.2.2.1
abbrev S43.f10 (x : S43) : List S102 := x.2.2.2.2.2.2.2.2.2.2
abbrev S57 := Int × Int × Int
abbrev T57 : Ty := (.pair (.int .i64) (.pair (.int .i64) (.int .u32)))
abbrev z57 : S57 := (0, 0, 0)
abbrev S57.f0 (x : S57) : Int := x.1
abbrev S57.f1 (x : S57) : Int := x.2.1
abbrev S57.f2 (x : S57) : Int := x.2.2
abbrev S72 := Int × Int × Int
abbrev T72 : Ty := (.pair (.int .i64) (.pair (.int .i64) (.int .u32)))
abbrev z72 : S72 := (0, 0, 0)
abbrev S72.f0 (x : S72) : Int := x.1
abbrev S72.f1 (x : S72) : Int := x.2.1
abbrev S72.f2 (x : S72) : Int := x.2.2
abbrev S146 := Bool × Bool × Bool
abbrev T146 : Ty := (.pair .bool (.pair .bool .bool))
abbrev z146 : S146 := (false, false, false)
abbrev S146.f0 (x : S146) : Bool := x.1
abbrev S146.f1 (x : S146) : Bool := x.2.1
abbrev S146.f2 (x : S146) : Bool := x.2.2
abbrev rd (l : List Int) (i : Int) : Int := l.getD i.toNat 0
abbrev rd_str (l : List ByteArray) (i : Int) : ByteArray := l.getD i.toNat ByteArray.empty
abbrev rd_bool (l : List Bool) (i : Int) : Bool := l.getD i.toNat false
abbrev rd_T100 (l : List S100) (i : Int) : S100 := l.getD i.toNat z100
abbrev rd_T102 (l : List S102) (i : Int) : S102 := l.getD i.toNat z102
abbrev rd_T104 (l : List S104) (i : Int) : S104 := l.getD i.toNat z104
abbrev rd_T122 (l : List S122) (i : Int) : S122 := l.getD i.toNat z122
abbrev rd_T143 (l : List S143) (i : Int) : S143 := l.getD i.toNat z143
abbrev rd_T57 (l : List S57) (i : Int) : S57 := l.getD i.toNat z57
abbrev rd_T64 (l : List S64) (i : Int) : S64 := l.getD i.toNat z64
abbrev rd_T72 (l : List S72) (i : Int) : S72 := l.getD i.toNat z72
abbrev rd_T94 (l : List S94) (i : Int) : S94 := l.getD i.toNat z94
abbrev rd_T98 (l : List S98) (i : Int) : S98 := l.getD i.toNat z98
def TL : List (Nat × TI) := [
  (3, { k := .int .i64, size := 1, bytes := 8, ty := some (.int .i64), offs := [], zero := [.int .i64 0], eq := false }),
  (4, { k := .bool, size := 1, bytes := 1, ty := some .bool, offs := [], zero := [.lit false], eq := false }),
  (5, { k := .int .u8, size := 1, bytes := 1, ty := some (.int .u8), offs := [], zero := [.int .u8 0], eq := false }),
  (9, { k := .str, size := 1, bytes := 16, ty := some .str, offs := [], zero := [.str ByteArray.empty], eq := false }),
  (23, { k := .struct, size := 3, bytes := 24, ty := some T23, offs := [(0, 1), (1, 1), (2, 1)], zero := [.int .i64 0, .int .i64 0, .int .i64 0], eq := false }),
  (25, { k := .struct, size := 7, bytes := 56, ty := some T25, offs := [(0, 1), (1, 1), (2, 1), (3, 1), (4, 1), (5, 1), (6, 1)], zero := [.int .i64 0, .int .i64 0, .int .i64 0, .int .i64 0, .int .i64 0, .int .i64 0, .int .i64 0], eq := false }),
  (26, { k := .slice 94, size := 1, bytes := 24, ty := some (.sl T94), offs := [], zero := [.nil], eq := false }),
  (27, { k := .slice 3, size := 1, bytes := 24, ty := some (.sl (.int .i64)), offs := [], zero := [.nil], eq := false }),
  (28, { k := .slice 100, size := 1, bytes := 24, ty := some (.sl T100), offs := [], zero := [.nil], eq := false }),
  (29, { k := .slice 104, size := 1, bytes := 24, ty := some (.sl T104), offs := [], zero := [.nil], eq := false }),
  (31, { k := .struct, size := 19, bytes := 216, ty := some T31, offs := [(0, 1), (1, 3), (4, 1), (5, 7), (12, 1), (13, 1), (14, 1), (15, 1), (16, 1), (17, 1), (18, 1)], zero := [.int .i64 0, .int .i64 0, .int .i64 0, .int .i64 0, .int .i64 0, .int .i64 0, .int .i64 0, .int .i64 0, .int .i64 0, .int .i64 0, .int .i64 0, .int .i64 0, .int .i64 0, .int .i64 0, .int .i64 0, .nil, .nil, .nil, .nil], eq := false }),
  (32, { k := .slice 72, size := 1, bytes := 24, ty := some (.sl T72), offs := [], zero := [.nil], eq := false }),
  (37, { k := .struct, size := 3, bytes := 24, ty := some T37, offs := [(0, 1), (1, 1), (2, 1)], zero := [.int .i64 0, .int .i64 0, .int .i64 0], eq := false }),
  (38, { k := .struct, size := 7, bytes := 56, ty := some T38, offs := [(0, 1), (1, 1), (2, 1), (3, 1), (4, 1), (5, 1), (6, 1)], zero := [.int .i64 0, .int .i64 0, .int .i64 0, .int .i64 0, .int .i64 0, .int .i64 0, .int .i64 0], eq := false }),
  (39, { k := .slice 64, size := 1, bytes := 24, ty := some (.sl T64), offs := [], zero := [.nil], eq := false }),
  (40, { k := .slice 98, size := 1, bytes := 24, ty := some (.sl T98), offs := [], zero := [.nil], eq := false }),
  (41, { k := .slice 102, size := 1, bytes := 24, ty := some (.sl T102), offs := [], zero := [.nil], eq := false }),
  (43, { k := .struct, size := 19, bytes := 216, ty := some T43, offs := [(0, 1), (1, 3), (4, 1), (5, 7), (12, 1), (13, 1), (14, 1), (15, 1), (16, 1), (17, 1), (18, 1)], zero := [.int .i64 0, .int .i64 0, .int .i64 0, .int .i64 0, .int .i64 0, .int .i64 0, .int .i64 0, .int .i64 0, .int .i64 0, .int .i64 0, .int .i64 0, .int .i64 0, .int .i64 0, .int .i64 0, .int .i64 0, .nil, .nil, .nil, .nil], eq := false }),
  (45, { k := .slice 57, size := 1, bytes := 24, ty := some (.sl T57), offs := [], zero := [.nil], eq := false }),
  (55, { k := .int .u32, size := 1, bytes := 4, ty := some (.int .u32), offs := [], zero := [.int .u32 0], eq := false }),
  (57, { k := .struct, size := 3, bytes := 24, ty := some T57, offs := [(0, 1), (1, 1), (2, 1)], zero := [.int .i64 0, .int .i64 0, .int .u32 0], eq := false }),
  (61, { k := .struct, size := 2, bytes := 16, ty := some T61, offs := [(0, 1), (1, 1)], zero := [.int .i64 0, .int .i64 0], eq := false }),
  (62, { k := .slice 122, size := 1, bytes := 24, ty := some (.sl T122), offs := [], zero := [.nil], eq := false }),
  (64, { k := .struct, size := 5, bytes := 64, ty := some T64, offs := [(0, 1), (1, 1), (2, 2), (4, 1)], zero := [.str ByteArray.empty, .int .i64 0, .int .i64 0, .int .i64 0, .nil], eq := false }),
  (72, { k := .struct, size := 3, bytes := 24, ty := some T72, offs := [(0, 1), (1, 1), (2, 1)], zero := [.int .i64 0, .int .i64 0, .int .u32 0], eq := false }),
  (76, { k := .bld 5, size := 2, bytes := 32, ty := none, offs := [], zero := [.undef, .nil], eq := false }),
  (91, { k := .struct, size := 2, bytes := 16, ty := some T91, offs := [(0, 1), (1, 1)], zero := [.int .i64 0, .int .i64 0], eq := false }),
  (92, { k := .slice 143, size := 1, bytes := 24, ty := some (.sl T143), offs := [], zero := [.nil], eq := false }),
  (94, { k := .struct, size := 5, bytes := 64, ty := some T94, offs := [(0, 1), (1, 1), (2, 2), (4, 1)], zero := [.str ByteArray.empty, .int .i64 0, .int .i64 0, .int .i64 0, .nil], eq := false }),
  (98, { k := .struct, size := 4, bytes := 32, ty := some T98, offs := [(0, 1), (1, 1), (2, 1), (3, 1)], zero := [.int .i64 0, .int .i64 0, .int .i64 0, .int .i64 0], eq := false }),
  (100, { k := .struct, size := 4, bytes := 32, ty := some T100, offs := [(0, 1), (1, 1), (2, 1), (3, 1)], zero := [.int .i64 0, .int .i64 0, .int .i64 0, .int .i64 0], eq := false }),
  (102, { k := .struct, size := 3, bytes := 24, ty := some T102, offs := [(0, 1), (1, 1), (2, 1)], zero := [.int .i64 0, .int .i64 0, .int .i64 0], eq := false }),
  (104, { k := .struct, size := 3, bytes := 24, ty := some T104, offs := [(0, 1), (1, 1), (2, 1)], zero := [.int .i64 0, .int .i64 0, .int .i64 0], eq := false }),
  (122, { k := .struct, size := 3, bytes := 24, ty := some T122, offs := [(0, 1), (1, 1), (2, 1)], zero := [.int .i64 0, .int .i64 0, .int .i64 0], eq := false }),
  (125, { k := .arr 6 3, size := 6, bytes := 48, ty := none, offs := [(0, 1), (1, 1), (2, 1), (3, 1), (4, 1), (5, 1)], zero := [.int .i64 0, .int .i64 0, .int .i64 0, .int .i64 0, .int .i64 0, .int .i64 0], eq := false }),
  (143, { k := .struct, size := 3, bytes := 24, ty := some T143, offs := [(0, 1), (1, 1), (2, 1)], zero := [.int .i64 0, .int .i64 0, .int .i64 0], eq := false }),
  (146, { k := .struct, size := 3, bytes := 3, ty := some T146, offs := [(0, 1), (1, 1), (2, 1)], zero := [.lit false, .lit false, .lit false], eq := false })]
theorem tok : TOK Tryz.prog (lookT TL) := tok_of (by kernel_rfl)
theorem mix : Tryz.prog.follows .mixedOrders = true := by kernel_rfl
end
end Go.Proofs.YtmdnpaekamkknaaGreatDoor.PPs
