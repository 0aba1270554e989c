/- Go functions as Lean functions, each with its contract. -/
import Derived.Test.YtfmbebgpbgcpeaaGreatChecked
import Derived.Test.YtfmbebgpbgcpeaaGreatYV12
set_option linter.unusedVariables false
set_option maxRecDepth 100000
namespace Go.Proofs.YtfmbebgpbgcpeaaGreat.PLi
open Go Go.Proofs Go.RowKit Go.Proofs.YtfmbebgpbgcpeaaGreat.V
noncomputable section
abbrev S23 := Int × Int × Int
abbrev T23 : Ty := (.pair (.int .i64) (.pair (.int .i64) (.int .i64)))
abbrev z23 : S23 := (0, 0, 0)
abbrev S23.f0 (x : S23) : Int := x.1
abbrev S23.f1 (x : S23) : Int := x.2.1
abbrev S23.f2 (x : S23) : Int := x.2.2
abbrev S25 := Int × Int × Int × Int × Int × Int × Int
abbrev T25 : Ty := (.pair (.int .i64) (.pair (.int .i64) (.pair (.int .i64) (.pair (.int .i64) (.pair (.int .i64) (.pair (.int .i64) (.int .i64)))))))
abbrev z25 : S25 := (0, 0, 0, 0, 0, 0, 0)
abbrev S25.f0 (x : S25) : Int := x.1
abbrev S25.f1 (x : S25) : Int := x.2.1
abbrev S25.f2 (x : S25) : Int := x.2.2.1
abbrev S25.f3 (x : S25) : Int := x.2.2.2.1
abbrev S25.f4 (x : S25) : Int := x.2.2.2.2.1
abbrev S25.f5 (x : S25) : Int := x.2.2.2.2.2.1
abbrev S25.f6 (x : S25) : Int := x.2.2.2.2.2.2
abbrev S104 := Int × Int
abbrev T104 : Ty := (.pair (.int .i64) (.int .i64))
abbrev z104 : S104 := (0, 0)
abbrev S104.f0 (x : S104) : Int := x.1
abbrev S104.f1 (x : S104) : Int := x.2
abbrev S155 := Int × Int × Int
abbrev T155 : Ty := (.pair (.int .i64) (.pair (.int .i64) (.int .i64)))
abbrev z155 : S155 := (0, 0, 0)
abbrev S155.f0 (x : S155) : Int := x.1
abbrev S155.f1 (x : S155) : Int := x.2.1
abbrev S155.f2 (x : S155) : Int := x.2.2
abbrev S107 := ByteArray × Int × S104 × (List S155)
abbrev T107 : Ty := (.pair .str (.pair (.int .i64) (.pair T104 (.sl T155))))
abbrev z107 : S107 := (ByteArray.empty, 0, z104, [])
abbrev S107.f0 (x : S107) : ByteArray := x.1
abbrev S107.f1 (x : S107) : Int := x.2.1
abbrev S107.f2 (x : S107) : S104 := x.2.2.1
abbrev S107.f3 (x : S107) : List S155 := x.2.2.2
abbrev S113 := Int × Int × Int × Int
abbrev T113 : Ty := (.pair (.int .i64) (.pair (.int .i64) (.pair (.int .i64) (.int .i64))))
abbrev z113 : S113 := (0, 0, 0, 0)
abbrev S113.f0 (x : S113) : Int := x.1
abbrev S113.f1 (x : S113) : Int := x.2.1
abbrev S113.f2 (x : S113) : Int := x.2.2.1
abbrev S113.f3 (x : S113) : Int := x.2.2.2
abbrev S115 := Int × Int × Int
abbrev T115 : Ty := (.pair (.int .i64) (.pair (.int .i64) (.int .i64)))
abbrev z115 : S115 := (0, 0, 0)
abbrev S115.f0 (x : S115) : Int := x.1
abbrev S115.f1 (x : S115) : Int := x.2.1
abbrev S115.f2 (x : S115) : Int := x.2.2
abbrev S31 := Int × S23 × Int × S25 × Int × Int × Int × (List S107) × (List Int) × (List S113) × (List S115)
abbrev T31 : Ty := (.pair (.int .i64) (.pair T23 (.pair (.int .i64) (.pair T25 (.pair (.int .i64) (.pair (.int .i64) (.pair (.int .i64) (.pair (.sl T107) (.pair (.sl (.int .i64)) (.pair (.sl T113) (.sl T115)))))))))))
abbrev z31 : S31 := (0, z23, 0, z25, 0, 0, 0, [], [], [], [])
abbrev S31.f0 (x : S31) : Int := x.1
abbrev S31.f1 (x : S31) : S23 := x.2.1
abbrev S31.f2 (x : S31) : Int := x.2.2.1
abbrev S31.f3 (x : S31) : S25 := x.2.2.2.1
abbrev S31.f4 (x : S31) : Int := x.2.2.2.2.1
abbrev S31.f5 (x : S31) : Int := x.2.2.2.2.2.1
abbrev S31.f6 (x : S31) : Int := x.2.2.2.2.2.2.1
abbrev S31.f7 (x : S31) : List S107 := x.2.2.2.2.2.2.2.1
abbrev S31.f8 (x : S31) : List Int := x.2.2.2.2.2.2.2.2.1
abbrev S31.f9 (x : S31) : List S113 := x.2.2.2.2.2.2.2.2.2.1
abbrev S31.f10 (x : S31) : List S115 := x.2.2.2.2.2.2.2.2.2.2
abbrev S37 := Int × Int × Int
abbrev T37 : Ty := (.pair (.int .i64) (.pair (.int .i64) (.int .i64)))
abbrev z37 : S37 := (0, 0, 0)
abbrev S37.f0 (x : S37) : Int := x.1
abbrev S37.f1 (x : S37) : Int := x.2.1
abbrev S37.f2 (x : S37) : Int := x.2.2
abbrev S38 := Int × Int × Int × Int × Int × Int × Int
abbrev T38 : Ty := (.pair (.int .i64) (.pair (.int .i64) (.pair (.int .i64) (.pair (.int .i64) (.pair (.int .i64) (.pair (.int .i64) (.int .i64)))))))
abbrev z38 : S38 := (0, 0, 0, 0, 0, 0, 0)
abbrev S38.f0 (x : S38) : Int := x.1
abbrev S38.f1 (x : S38) : Int := x.2.1
abbrev S38.f2 (x : S38) : Int := x.2.2.1
abbrev S38.f3 (x : S38) : Int := x.2.2.2.1
abbrev S38.f4 (x : S38) : Int := x.2.2.2.2.1
abbrev S38.f5 (x : S38) : Int := x.2.2.2.2.2.1
abbrev S38.f6 (x : S38) : Int := x.2.2.2.2.2.2
abbrev S69 := Int × Int
abbrev T69 : Ty := (.pair (.int .i64) (.int .i64))
abbrev z69 : S69 := (0, 0)
abbrev S69.f0 (x : S69) : Int := x.1
abbrev S69.f1 (x : S69) : Int := x.2
abbrev S75 := Int × Int × Int
abbrev T75 : Ty := (.pair (.int .i64) (.pair (.int .i64) (.int .i64)))
abbrev z75 : S75 := (0, 0, 0)
abbrev S75.f0 (x : S75) : Int := x.1
abbrev S75.f1 (x : S75) : Int := x.2.1
abbrev S75.f2 (x : S75) : Int := x.2.2
abbrev S72 := ByteArray × Int × S69 × (List S75)
abbrev T72 : Ty := (.pair .str (.pair (.int .i64) (.pair T69 (.sl T75))))
abbrev z72 : S72 := (ByteArray.empty, 0, z69, [])
abbrev S72.f0 (x : S72) : ByteArray := x.1
abbrev S72.f1 (x : S72) : Int := x.2.1
abbrev S72.f2 (x : S72) : S69 := x.2.2.1
abbrev S72.f3 (x : S72) : List S75 := x.2.2.2
abbrev S111 := Int × Int × Int × Int
abbrev T111 : Ty := (.pair (.int .i64) (.pair (.int .i64) (.pair (.int .i64) (.int .i64))))
abbrev z111 : S111 := (0, 0, 0, 0)
abbrev S111.f0 (x : S111) : Int := x.1
abbrev S111.f1 (x : S111) : Int := x.2.1
abbrev S111.f2 (x : S111) : Int := x.2.2.1
abbrev S111.f3 (x : S111) : Int := x.2.2.2
abbrev S95 := Int × Int × Int
abbrev T95 : Ty := (.pair (.int .i64) (.pair (.int .i64) (.int .i64)))
abbrev z95 : S95 := (0, 0, 0)
abbrev S95.f0 (x : S95) : Int := x.1
abbrev S95.f1 (x : S95) : Int := x.2.1
abbrev S95.f2 (x : S95) : Int := x.2.2
abbrev S43 := Int × S37 × Int × S38 × Int × Int × Int × (List S72) × (List Int) × (List S111) × (List S95)
abbrev T43 : Ty := (.pair (.int .i64) (.pair T37 (.pair (.int .i64) (.pair T38 (.pair (.int .i64) (.pair (.int .i64) (.pair (.int .i64) (.pair (.sl T72) (.pair (.sl (.int .i64)) (.pair (.sl T111) (.sl T95)))))))))))
abbrev z43 : S43 := (0, z37, 0, z38, 0, 0, 0, [], [], [], [])
abbrev S43.f0 (x : S43) : Int := x.1
abbrev S43.f1 (x : S43) : S37 := x.2.1
abbrev S43.f2 (x : S43) : Int := x.2.2.1
abbrev S43.f3 (x : S43) : S38 := x.2.2.2.1
abbrev S43.f4 (x : S43) : Int := x.2.2.2.2.1
abbrev S43.f5 (x : S43) : Int := x.2.2.2.2.2.1
abbrev S43.f6 (x : S43) : Int := x.2.2.2.2.2.2.1
abbrev S43.f7 (x : S43) : List S72 := x.2.2.2.2.2.2.2.1
abbrev S43.f8 (x : S43) : List Int := x.2.2.2.2.2.2.2.2.1
abbrev S43.f9 (x : S43) : List S111 := x.2.2.2.2.2.2.2.2.2.1
abbrev S43.f10 (x : S43) : List S95 := x.2.2.2.2.2.2.2.2.2.2
abbrev S158 := Bool × Bool × Bool
abbrev T158 : Ty := (.pair .bool (.pair .bool .bool))
abbrev z158 : S158 := (false, false, false)
abbrev S158.f0 (x : S158) : Bool := x.1
abbrev S158.f1 (x : S158) : Bool := x.2.1
abbrev S158.f2 (x : S158) : Bool := x.2.2
abbrev rd (l : List Int) (i : Int) : Int := l.getD i.toNat 0
abbrev rd_str (l : List ByteArray) (i : Int) : ByteArray := l.getD i.toNat ByteArray.empty
abbrev rd_bool (l : List Bool) (i : Int) : Bool := l.getD i.toNat false
abbrev rd_ListInt (l : List (List Int)) (i : Int) : List Int := l.getD i.toNat []
abbrev rd_T107 (l : List S107) (i : Int) : S107 := l.getD i.toNat z107
abbrev rd_T111 (l : List S111) (i : Int) : S111 := l.getD i.toNat z111
abbrev rd_T113 (l : List S113) (i : Int) : S113 := l.getD i.toNat z113
abbrev rd_T115 (l : List S115) (i : Int) : S115 := l.getD i.toNat z115
abbrev rd_T155 (l : List S155) (i : Int) : S155 := l.getD i.toNat z155
abbrev rd_T72 (l : List S72) (i : Int) : S72 := l.getD i.toNat z72
abbrev rd_T75 (l : List S75) (i : Int) : S75 := l.getD i.toNat z75
abbrev rd_T95 (l : List S95) (i : Int) : S95 := l.getD i.toNat z95
def TL : List (Nat × TI) := [
  (3, { k := .int .i64, size := 1, bytes := 8, ty := some (.int .i64), offs := [], zero := [.int .i64 0], eq := false }),
  (4, { k := .bool, size := 1, bytes := 1, ty := some .bool, offs := [], zero := [.lit false], eq := false }),
  (5, { k := .int .u8, size := 1, bytes := 1, ty := some (.int .u8), offs := [], zero := [.int .u8 0], eq := false }),
  (9, { k := .str, size := 1, bytes := 16, ty := some .str, offs := [], zero := [.str ByteArray.empty], eq := false }),
  (23, { k := .struct, size := 3, bytes := 24, ty := some T23, offs := [(0, 1), (1, 1), (2, 1)], zero := [.int .i64 0, .int .i64 0, .int .i64 0], eq := false }),
  (25, { k := .struct, size := 7, bytes := 56, ty := some T25, offs := [(0, 1), (1, 1), (2, 1), (3, 1), (4, 1), (5, 1), (6, 1)], zero := [.int .i64 0, .int .i64 0, .int .i64 0, .int .i64 0, .int .i64 0, .int .i64 0, .int .i64 0], eq := false }),
  (26, { k := .slice 107, size := 1, bytes := 24, ty := some (.sl T107), offs := [], zero := [.nil], eq := false }),
  (27, { k := .slice 3, size := 1, bytes := 24, ty := some (.sl (.int .i64)), offs := [], zero := [.nil], eq := false }),
  (28, { k := .slice 113, size := 1, bytes := 24, ty := some (.sl T113), offs := [], zero := [.nil], eq := false }),
  (29, { k := .slice 115, size := 1, bytes := 24, ty := some (.sl T115), offs := [], zero := [.nil], eq := false }),
  (31, { k := .struct, size := 19, bytes := 216, ty := some T31, offs := [(0, 1), (1, 3), (4, 1), (5, 7), (12, 1), (13, 1), (14, 1), (15, 1), (16, 1), (17, 1), (18, 1)], zero := [.int .i64 0, .int .i64 0, .int .i64 0, .int .i64 0, .int .i64 0, .int .i64 0, .int .i64 0, .int .i64 0, .int .i64 0, .int .i64 0, .int .i64 0, .int .i64 0, .int .i64 0, .int .i64 0, .int .i64 0, .nil, .nil, .nil, .nil], eq := false }),
  (32, { k := .slice 78, size := 1, bytes := 24, ty := some (.sl (.int .u32)), offs := [], zero := [.nil], eq := false }),
  (34, { k := .slice 76, size := 1, bytes := 24, ty := some (.sl (.sl (.int .u8))), offs := [], zero := [.nil], eq := false }),
  (37, { k := .struct, size := 3, bytes := 24, ty := some T37, offs := [(0, 1), (1, 1), (2, 1)], zero := [.int .i64 0, .int .i64 0, .int .i64 0], eq := false }),
  (38, { k := .struct, size := 7, bytes := 56, ty := some T38, offs := [(0, 1), (1, 1), (2, 1), (3, 1), (4, 1), (5, 1), (6, 1)], zero := [.int .i64 0, .int .i64 0, .int .i64 0, .int .i64 0, .int .i64 0, .int .i64 0, .int .i64 0], eq := false }),
  (39, { k := .slice 72, size := 1, bytes := 24, ty := some (.sl T72), offs := [], zero := [.nil], eq := false }),
  (40, { k := .slice 111, size := 1, bytes := 24, ty := some (.sl T111), offs := [], zero := [.nil], eq := false }),
  (41, { k := .slice 95, size := 1, bytes := 24, ty := some (.sl T95), offs := [], zero := [.nil], eq := false }),
  (43, { k := .struct, size := 19, bytes := 216, ty := some T43, offs := [(0, 1), (1, 3), (4, 1), (5, 7), (12, 1), (13, 1), (14, 1), (15, 1), (16, 1), (17, 1), (18, 1)], zero := [.int .i64 0, .int .i64 0, .int .i64 0, .int .i64 0, .int .i64 0, .int .i64 0, .int .i64 0, .int .i64 0, .int .i64 0, .int .i64 0, .int .i64 0, .int .i64 0, .int .i64 0, .int .i64 0, .int .i64 0, .nil, .nil, .nil, .nil], eq := false }),
  (69, { k := .struct, size := 2, bytes := 16, ty := some T69, offs := [(0, 1), (1, 1)], zero := [.int .i64 0, .int .i64 0], eq := false }),
  (70, { k := .slice 75, size := 1, bytes := 24, ty := some (.sl T75), offs := [], zero := [.nil], eq := false }),
  (72, { k := .struct, size := 5, bytes := 64, ty := some T72, offs := [(0, 1), (1, 1), (2, 2), (4, 1)], zero := [.str ByteArray.empty, .int .i64 0, .int .i64 0, .int .i64 0, .nil], eq := false }),
  (75, { k := .struct, size := 3, bytes := 24, ty := some T75, offs := [(0, 1), (1, 1), (2, 1)], zero := [.int .i64 0, .int .i64 0, .int .i64 0], eq := false }),
  (76, { k := .slice 5, size := 1, bytes := 24, ty := some (.sl (.int .u8)), offs := [], zero := [.nil], eq := false }),
  (78, { k := .int .u32, size := 1, bytes := 4, ty := some (.int .u32), offs := [], zero := [.int .u32 0], eq := false }),
  (95, { k := .struct, size := 3, bytes := 24, ty := some T95, offs := [(0, 1), (1, 1), (2, 1)], zero := [.int .i64 0, .int .i64 0, .int .i64 0], eq := false }),
  (104, { k := .struct, size := 2, bytes := 16, ty := some T104, offs := [(0, 1), (1, 1)], zero := [.int .i64 0, .int .i64 0], eq := false }),
  (105, { k := .slice 155, size := 1, bytes := 24, ty := some (.sl T155), offs := [], zero := [.nil], eq := false }),
  (107, { k := .struct, size := 5, bytes := 64, ty := some T107, offs := [(0, 1), (1, 1), (2, 2), (4, 1)], zero := [.str ByteArray.empty, .int .i64 0, .int .i64 0, .int .i64 0, .nil], eq := false }),
  (111, { k := .struct, size := 4, bytes := 32, ty := some T111, offs := [(0, 1), (1, 1), (2, 1), (3, 1)], zero := [.int .i64 0, .int .i64 0, .int .i64 0, .int .i64 0], eq := false }),
  (113, { k := .struct, size := 4, bytes := 32, ty := some T113, offs := [(0, 1), (1, 1), (2, 1), (3, 1)], zero := [.int .i64 0, .int .i64 0, .int .i64 0, .int .i64 0], eq := false }),
  (115, { k := .struct, size := 3, bytes := 24, ty := some T115, offs := [(0, 1), (1, 1), (2, 1)], zero := [.int .i64 0, .int .i64 0, .int .i64 0], eq := false }),
  (138, { k := .arr 6 3, size := 6, bytes := 48, ty := none, offs := [(0, 1), (1, 1), (2, 1), (3, 1), (4, 1), (5, 1)], zero := [.int .i64 0, .int .i64 0, .int .i64 0, .int .i64 0, .int .i64 0, .int .i64 0], eq := false }),
  (155, { k := .struct, size := 3, bytes := 24, ty := some T155, offs := [(0, 1), (1, 1), (2, 1)], zero := [.int .i64 0, .int .i64 0, .int .i64 0], eq := false }),
  (158, { k := .struct, size := 3, bytes := 3, ty := some T158, offs := [(0, 1), (1, 1), (2, 1)], zero := [.lit false, .lit false, .lit false], eq := false })]
theorem tok : TOK Tryz.prog (lookT TL) := tok_of (by kernel_rfl)
theorem mix : Tryz.prog.follows .mixedOrders = true := by kernel_rfl
end
end Go.Proofs.YtfmbebgpbgcpeaaGreat.PLi
