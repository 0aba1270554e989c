/- Go functions as Lean functions, each with its contract. -/
import Derived.Test.YtgagpmiooeoodaaGreatChecked
import Derived.Test.YtgagpmiooeoodaaGreatV12
set_option linter.unusedVariables false
set_option maxRecDepth 100000
namespace Go.Proofs.YtgagpmiooeoodaaGreat.PTwo
open Go Go.Proofs Go.RowKit Go.Proofs.YtgagpmiooeoodaaGreat.V
abbrev S23 := Int × Int × Int
abbrev T23 : Ty := (.pair (.int .i64) (.pair (.int .i64) (.int .i64)))
abbrev z23 : S23 := (0, 0, 0)
abbrev S23.f0 (x : S23) : Int := x.1
abbrev S23.f1 (x : S23) : Int := x.2.1
abbrev S23.f2 (x : S23) : Int := x.2.2
abbrev S25 := Int × Int × Int × Int × Int × Int × Int
abbrev T25 : Ty := (.pair (.int .i64) (.pair (.int .i64) (.pair (.int .i64) (.pair (.int .i64) (.pair (.int .i64) (.pair (.int .i64) (.int .i64)))))))
abbrev z25 : S25 := (0, 0, 0, 0, 0, 0, 0)
abbrev S25.f0 (x : S25) : Int := x.1
abbrev S25.f1 (x : S25) : Int := x.2.1
abbrev S25.f2 (x : S25) : Int := x.2.2.1
abbrev S25.f3 (x : S25) : Int := x.2.2.2.1
abbrev S25.f4 (x : S25) : Int := x.2.2.2.2.1
abbrev S25.f5 (x : S25) : Int := x.2.2.2.2.2.1
abbrev S25.f6 (x : S25) : Int := x.2.2.2.2.2.2
abbrev S153 := Int × Int
abbrev T153 : Ty := (.pair (.int .i64) (.int .i64))
abbrev z153 : S153 := (0, 0)
abbrev S153.f0 (x : S153) : Int := x.1
abbrev S153.f1 (x : S153) : Int := x.2
abbrev S207 := Int × Int × Int
abbrev T207 : Ty := (.pair (.int .i64) (.pair (.int .i64) (.int .i64)))
abbrev z207 : S207 := (0, 0, 0)
abbrev S207.f0 (x : S207) : Int := x.1
abbrev S207.f1 (x : S207) : Int := x.2.1
abbrev S207.f2 (x : S207) : Int := x.2.2
abbrev S156 := ByteArray × Int × S153 × (List S207)
abbrev T156 : Ty := (.pair .str (.pair (.int .i64) (.pair T153 (.sl T207))))
abbrev z156 : S156 := (ByteArray.empty, 0, z153, [])
abbrev S156.f0 (x : S156) : ByteArray := x.1
abbrev S156.f1 (x : S156) : Int := x.2.1
abbrev S156.f2 (x : S156) : S153 := x.2.2.1
abbrev S156.f3 (x : S156) : List S207 := x.2.2.2
abbrev S159 := Int × Int × Int × Int
abbrev T159 : Ty := (.pair (.int .i64) (.pair (.int .i64) (.pair (.int .i64) (.int .i64))))
abbrev z159 : S159 := (0, 0, 0, 0)
abbrev S159.f0 (x : S159) : Int := x.1
abbrev S159.f1 (x : S159) : Int := x.2.1
abbrev S159.f2 (x : S159) : Int := x.2.2.1
abbrev S159.f3 (x : S159) : Int := x.2.2.2
abbrev S161 := Int × Int × Int
abbrev T161 : Ty := (.pair (.int .i64) (.pair (.int .i64) (.int .i64)))
abbrev z161 : S161 := (0, 0, 0)
abbrev S161.f0 (x : S161) : Int := x.1
abbrev S161.f1 (x : S161) : Int := x.2.1
abbrev S161.f2 (x : S161) : Int := x.2.2
abbrev S31 := Int × S23 × Int × S25 × Int × Int × Int × (List S156) × (List Int) × (List S159) × (List S161)
abbrev T31 : Ty := (.pair (.int .i64) (.pair T23 (.pair (.int .i64) (.pair T25 (.pair (.int .i64) (.pair (.int .i64) (.pair (.int .i64) (.pair (.sl T156) (.pair (.sl (.int .i64)) (.pair (.sl T159) (.sl T161)))))))))))
abbrev z31 : S31 := (0, z23, 0, z25, 0, 0, 0, [], [], [], [])
abbrev S31.f0 (x : S31) : Int := x.1
abbrev S31.f1 (x : S31) : S23 := x.2.1
abbrev S31.f2 (x : S31) : Int := x.2.2.1
abbrev S31.f3 (x : S31) : S25 := x.2.2.2.1
abbrev S31.f4 (x : S31) : Int := x.2.2.2.2.1
abbrev S31.f5 (x : S31) : Int := x.2.2.2.2.2.1
abbrev S31.f6 (x : S31) : Int := x.2.2.2.2.2.2.1
abbrev S31.f7 (x : S31) : List S156 := x.2.2.2.2.2.2.2.1
abbrev S31.f8 (x : S31) : List Int := x.2.2.2.2.2.2.2.2.1
abbrev S31.f9 (x : S31) : List S159 := x.2.2.2.2.2.2.2.2.2.1
abbrev S31.f10 (x : S31) : List S161 := x.2.2.2.2.2.2.2.2.2.2
abbrev S36 := Int × Int × Int
abbrev T36 : Ty := (.pair (.int .i64) (.pair (.int .i64) (.int .i64)))
abbrev z36 : S36 := (0, 0, 0)
abbrev S36.f0 (x : S36) : Int := x.1
abbrev S36.f1 (x : S36) : Int := x.2.1
abbrev S36.f2 (x : S36) : Int := x.2.2
abbrev S37 := Int × Int × Int × Int × Int × Int × Int
abbrev T37 : Ty := (.pair (.int .i64) (.pair (.int .i64) (.pair (.int .i64) (.pair (.int .i64) (.pair (.int .i64) (.pair (.int .i64) (.int .i64)))))))
abbrev z37 : S37 := (0, 0, 0, 0, 0, 0, 0)
abbrev S37.f0 (x : S37) : Int := x.1
abbrev S37.f1 (x : S37) : Int := x.2.1
abbrev S37.f2 (x : S37) : Int := x.2.2.1
abbrev S37.f3 (x : S37) : Int := x.2.2.2.1
abbrev S37.f4 (x : S37) : Int := x.2.2.2.2.1
abbrev S37.f5 (x : S37) : Int := x.2.2.2.2.2.1
abbrev S37.f6 (x : S37) : Int := x.2.2.2.2.2.2
abbrev S125 := Int × Int
abbrev T125 : Ty := (.pair (.int .i64) (.int .i64))
abbrev z125 : S125 := (0, 0)
abbrev S125.f0 (x : S125) : Int := x.1
abbrev S125.f1 (x : S125) : Int := x.2
abbrev S131 := Int × Int × Int
abbrev T131 : Ty := (.pair (.int .i64) (.pair (.int .i64) (.int .i64)))
abbrev z131 : S131 := (0, 0, 0)
abbrev S131.f0 (x : S131) : Int := x.1
abbrev S131.f1 (x : S131) : Int := x.2.1
abbrev S131.f2 (x : S131) : Int := x.2.2
abbrev S128 := ByteArray × Int × S125 × (List S131)
abbrev T128 : Ty := (.pair .str (.pair (.int .i64) (.pair T125 (.sl T131))))
abbrev z128 : S128 := (ByteArray.empty, 0, z125, [])
abbrev S128.f0 (x : S128) : ByteArray := x.1
abbrev S128.f1 (x : S128) : Int := x.2.1
abbrev S128.f2 (x : S128) : S125 := x.2.2.1
abbrev S128.f3 (x : S128) : List S131 := x.2.2.2
abbrev S119 := Int × Int × Int × Int
abbrev T119 : Ty := (.pair (.int .i64) (.pair (.int .i64) (.pair (.int .i64) (.int .i64))))
abbrev z119 : S119 := (0, 0, 0, 0)
abbrev S119.f0 (x : S119) : Int := x.1
abbrev S119.f1 (x : S119) : Int := x.2.1
abbrev S119.f2 (x : S119) : Int := x.2.2.1
abbrev S119.f3 (x : S119) : Int := x.2.2.2
abbrev S140 := Int × Int × Int
abbrev T140 : Ty := (.pair (.int .i64) (.pair (.int .i64) (.int .i64)))
abbrev z140 : S140 := (0, 0, 0)
abbrev S140.f0 (x : S140) : Int := x.1
abbrev S140.f1 (x : S140) : Int := x.2.1
abbrev S140.f2 (x : S140) : Int := x.2.2
abbrev S42 := Int × S36 × Int × S37 × Int × Int × Int × (List S128) × (List Int) × (List S119) × (List S140)
abbrev T42 : Ty := (.pair (.int .i64) (.pair T36 (.pair (.int .i64) (.pair T37 (.pair (.int .i64) (.pair (.int .i64) (.pair (.int .i64) (.pair (.sl T128) (.pair (.sl (.int .i64)) (.pair (.sl T119) (.sl T140)))))))))))
abbrev z42 : S42 := (0, z36, 0, z37, 0, 0, 0, [], [], [], [])
abbrev S42.f0 (x : S42) : Int := x.1
abbrev S42.f1 (x : S42) : S36 := x.2.1
abbrev S42.f2 (x : S42) : Int := x.2.2.1
abbrev S42.f3 (x : S42) : S37 := x.2.2.2.1
abbrev S42.f4 (x : S42) : Int := x.2.2.2.2.1
abbrev S42.f5 (x : S42) : Int := x.2.2.2.2.2.1
abbrev S42.f6 (x : S42) : Int := x.2.2.2.2.2.2.1
abbrev S42.f7 (x : S42) : List S128 := x.2.2.2.2.2.2.2.1
abbrev S42.f8 (x : S42) : List Int := x.2.2.2.2.2.2.2.2.1
abbrev S42.f9 (x : S42) : List S119 := x.2.2.2.2.2.2.2.2.2.1
abbrev S42.f10 (x : S42) : List S140 := x.2.2.2.2.2.2.2.2.2.2
abbrev S96 := Int × Int × Int × Int
abbrev T96 : Ty := (.pair (.int .i64) (.pair (.int .i64) (.pair (.int .i64) (.int .i64))))
abbrev z96 : S96 := (0, 0, 0, 0)
abbrev S96.f0 (x : S96) : Int := x.1
abbrev S96.f1 (x : S96) : Int := x.2.1
abbrev S96.f2 (x : S96) : Int := x.2.2.1
abbrev S96.f3 (x : S96) : Int := x.2.2.2
abbrev S106 := Int × Int × Int × Int
abbrev T106 : Ty := (.pair (.int .i64) (.pair (.int .i64) (.pair (.int .i64) (.int .i64))))
abbrev z106 : S106 := (0, 0, 0, 0)
abbrev S106.f0 (x : S106) : Int := x.1
abbrev S106.f1 (x : S106) : Int := x.2.1
abbrev S106.f2 (x : S106) : Int := x.2.2.1
abbrev S106.f3 (x : S106) : Int := x.2.2.2
abbrev S144 := Int × Int × Int
abbrev T144 : Ty := (.pair (.int .i64) (.pair (.int .i64) (.int .u32)))
abbrev z144 : S144 := (0, 0, 0)
abbrev S144.f0 (x : S144) : Int := x.1
abbrev S144.f1 (x : S144) : Int := x.2.1
abbrev S144.f2 (x : S144) : Int := x.2.2
abbrev S146 := Int × Int × Int
abbrev T146 : Ty := (.pair (.int .i64) (.pair (.int .i64) (.int .u32)))
abbrev z146 : S146 := (0, 0, 0)
abbrev S146.f0 (x : S146) : Int := x.1
abbrev S146.f1 (x : S146) : Int := x.2.1
abbrev S146.f2 (x : S146) : Int := x.2.2
abbrev S210 := Bool × Bool × Bool
abbrev T210 : Ty := (.pair .bool (.pair .bool .bool))
abbrev z210 : S210 := (false, false, false)
abbrev S210.f0 (x : S210) : Bool := x.1
abbrev S210.f1 (x : S210) : Bool := x.2.1
abbrev S210.f2 (x : S210) : Bool := x.2.2
abbrev rd (l : List Int) (i : Int) : Int := l.getD i.toNat 0
abbrev rd_str (l : List ByteArray) (i : Int) : ByteArray := l.getD i.toNat ByteArray.empty
abbrev rd_bool (l : List Bool) (i : Int) : Bool := l.getD i.toNat false
abbrev rd_ListInt (l : List (List Int)) (i : Int) : List Int := l.getD i.toNat []
abbrev rd_ListListInt (l : List (List (List Int))) (i : Int) : List (List Int) := l.getD i.toNat []
abbrev rd_T106 (l : List S106) (i : Int) : S106 := l.getD i.toNat z106
abbrev rd_T119 (l : List S119) (i : Int) : S119 := l.getD i.toNat z119
abbrev rd_T128 (l : List S128) (i : Int) : S128 := l.getD i.toNat z128
abbrev rd_T131 (l : List S131) (i : Int) : S131 := l.getD i.toNat z131
abbrev rd_T140 (l : List S140) (i : Int) : S140 := l.getD i.toNat z140
abbrev rd_T144 (l : List S144) (i : Int) : S144 := l.getD i.toNat z144
abbrev rd_T146 (l : List S146) (i : Int) : S146 := l.getD i.toNat z146
abbrev rd_T156 (l : List S156) (i : Int) : S156 := l.getD i.toNat z156
abbrev rd_T159 (l : List S159) (i : Int) : S159 := l.getD i.toNat z159
abbrev rd_T161 (l : List S161) (i : Int) : S161 := l.getD i.toNat z161
abbrev rd_T207 (l : List S207) (i : Int) : S207 := l.getD i.toNat z207
abbrev rd_T96 (l : List S96) (i : Int) : S96 := l.getD i.toNat z96
def TL : List (Nat × TI) := [
  (3, { k := .int .i64, size := 1, bytes := 8, ty := some (.int .i64), offs := [], zero := [.int .i64 0], eq := false }),
  (4, { k := .bool, size := 1, bytes := 1, ty := some .bool, offs := [], zero := [.lit false], eq := false }),
  (5, { k := .int .u8, size := 1, bytes := 1, ty := some (.int .u8), offs := [], zero := [.int .u8 0], eq := false }),
  (9, { k := .str, size := 1, bytes := 16, ty := some .str, offs := [], zero := [.str ByteArray.empty], eq := false }),
  (23, { k := .struct, size := 3, bytes := 24, ty := some T23, offs := [(0, 1), (1, 1), (2, 1)], zero := [.int .i64 0, .int .i64 0, .int .i64 0], eq := false }),
  (25, { k := .struct, size := 7, bytes := 56, ty := some T25, offs := [(0, 1), (1, 1), (2, 1), (3, 1), (4, 1), (5, 1), (6, 1)], zero := [.int .i64 0, .int .i64 0, .int .i64 0, .int .i64 0, .int .i64 0, .int .i64 0, .int .i64 0], eq := false }),
  (26, { k := .slice 156, size := 1, bytes := 24, ty := some (.sl T156), offs := [], zero := [.nil], eq := false }),
  (27, { k := .slice 3, size := 1, bytes := 24, ty := some (.sl (.int .i64)), offs := [], zero := [.nil], eq := false }),
  (28, { k := .slice 159, size := 1, bytes := 24, ty := some (.sl T159), offs := [], zero := [.nil], eq := false }),
  (29, { k := .slice 161, size := 1, bytes := 24, ty := some (.sl T161), offs := [], zero := [.nil], eq := false }),
  (31, { k := .struct, size := 19, bytes := 216, ty := some T31, offs := [(0, 1), (1, 3), (4, 1), (5, 7), (12, 1), (13, 1), (14, 1), (15, 1), (16, 1), (17, 1), (18, 1)], zero := [.int .i64 0, .int .i64 0, .int .i64 0, .int .i64 0, .int .i64 0, .int .i64 0, .int .i64 0, .int .i64 0, .int .i64 0, .int .i64 0, .int .i64 0, .int .i64 0, .int .i64 0, .int .i64 0, .int .i64 0, .nil, .nil, .nil, .nil], eq := false }),
  (32, { k := .slice 106, size := 1, bytes := 24, ty := some (.sl T106), offs := [], zero := [.nil], eq := false }),
  (36, { k := .struct, size := 3, bytes := 24, ty := some T36, offs := [(0, 1), (1, 1), (2, 1)], zero := [.int .i64 0, .int .i64 0, .int .i64 0], eq := false }),
  (37, { k := .struct, size := 7, bytes := 56, ty := some T37, offs := [(0, 1), (1, 1), (2, 1), (3, 1), (4, 1), (5, 1), (6, 1)], zero := [.int .i64 0, .int .i64 0, .int .i64 0, .int .i64 0, .int .i64 0, .int .i64 0, .int .i64 0], eq := false }),
  (38, { k := .slice 128, size := 1, bytes := 24, ty := some (.sl T128), offs := [], zero := [.nil], eq := false }),
  (39, { k := .slice 119, size := 1, bytes := 24, ty := some (.sl T119), offs := [], zero := [.nil], eq := false }),
  (40, { k := .slice 140, size := 1, bytes := 24, ty := some (.sl T140), offs := [], zero := [.nil], eq := false }),
  (42, { k := .struct, size := 19, bytes := 216, ty := some T42, offs := [(0, 1), (1, 3), (4, 1), (5, 7), (12, 1), (13, 1), (14, 1), (15, 1), (16, 1), (17, 1), (18, 1)], zero := [.int .i64 0, .int .i64 0, .int .i64 0, .int .i64 0, .int .i64 0, .int .i64 0, .int .i64 0, .int .i64 0, .int .i64 0, .int .i64 0, .int .i64 0, .int .i64 0, .int .i64 0, .int .i64 0, .int .i64 0, .nil, .nil, .nil, .nil], eq := false }),
  (44, { k := .slice 96, size := 1, bytes := 24, ty := some (.sl T96), offs := [], zero := [.nil], eq := false }),
  (49, { k := .slice 63, size := 1, bytes := 24, ty := some (.sl (.sl (.sl (.int .u8)))), offs := [], zero := [.nil], eq := false }),
  (63, { k := .slice 132, size := 1, bytes := 24, ty := some (.sl (.sl (.int .u8))), offs := [], zero := [.nil], eq := false }),
  (79, { k := .slice 146, size := 1, bytes := 24, ty := some (.sl T146), offs := [], zero := [.nil], eq := false }),
  (81, { k := .slice 144, size := 1, bytes := 24, ty := some (.sl T144), offs := [], zero := [.nil], eq := false }),
  (96, { k := .struct, size := 4, bytes := 32, ty := some T96, offs := [(0, 1), (1, 1), (2, 1), (3, 1)], zero := [.int .i64 0, .int .i64 0, .int .i64 0, .int .i64 0], eq := true }),
  (106, { k := .struct, size := 4, bytes := 32, ty := some T106, offs := [(0, 1), (1, 1), (2, 1), (3, 1)], zero := [.int .i64 0, .int .i64 0, .int .i64 0, .int .i64 0], eq := false }),
  (119, { k := .struct, size := 4, bytes := 32, ty := some T119, offs := [(0, 1), (1, 1), (2, 1), (3, 1)], zero := [.int .i64 0, .int .i64 0, .int .i64 0, .int .i64 0], eq := false }),
  (125, { k := .struct, size := 2, bytes := 16, ty := some T125, offs := [(0, 1), (1, 1)], zero := [.int .i64 0, .int .i64 0], eq := false }),
  (126, { k := .slice 131, size := 1, bytes := 24, ty := some (.sl T131), offs := [], zero := [.nil], eq := false }),
  (128, { k := .struct, size := 5, bytes := 64, ty := some T128, offs := [(0, 1), (1, 1), (2, 2), (4, 1)], zero := [.str ByteArray.empty, .int .i64 0, .int .i64 0, .int .i64 0, .nil], eq := false }),
  (131, { k := .struct, size := 3, bytes := 24, ty := some T131, offs := [(0, 1), (1, 1), (2, 1)], zero := [.int .i64 0, .int .i64 0, .int .i64 0], eq := false }),
  (132, { k := .slice 5, size := 1, bytes := 24, ty := some (.sl (.int .u8)), offs := [], zero := [.nil], eq := false }),
  (134, { k := .int .u32, size := 1, bytes := 4, ty := some (.int .u32), offs := [], zero := [.int .u32 0], eq := false }),
  (140, { k := .struct, size := 3, bytes := 24, ty := some T140, offs := [(0, 1), (1, 1), (2, 1)], zero := [.int .i64 0, .int .i64 0, .int .i64 0], eq := false }),
  (144, { k := .struct, size := 3, bytes := 24, ty := some T144, offs := [(0, 1), (1, 1), (2, 1)], zero := [.int .i64 0, .int .i64 0, .int .u32 0], eq := true }),
  (146, { k := .struct, size := 3, bytes := 24, ty := some T146, offs := [(0, 1), (1, 1), (2, 1)], zero := [.int .i64 0, .int .i64 0, .int .u32 0], eq := false }),
  (153, { k := .struct, size := 2, bytes := 16, ty := some T153, offs := [(0, 1), (1, 1)], zero := [.int .i64 0, .int .i64 0], eq := false }),
  (154, { k := .slice 207, size := 1, bytes := 24, ty := some (.sl T207), offs := [], zero := [.nil], eq := false }),
  (156, { k := .struct, size := 5, bytes := 64, ty := some T156, offs := [(0, 1), (1, 1), (2, 2), (4, 1)], zero := [.str ByteArray.empty, .int .i64 0, .int .i64 0, .int .i64 0, .nil], eq := false }),
  (159, { k := .struct, size := 4, bytes := 32, ty := some T159, offs := [(0, 1), (1, 1), (2, 1), (3, 1)], zero := [.int .i64 0, .int .i64 0, .int .i64 0, .int .i64 0], eq := false }),
  (161, { k := .struct, size := 3, bytes := 24, ty := some T161, offs := [(0, 1), (1, 1), (2, 1)], zero := [.int .i64 0, .int .i64 0, .int .i64 0], eq := false }),
  (172, { k := .slice 4, size := 1, bytes := 24, ty := some (.sl .bool), offs := [], zero := [.nil], eq := false }),
  (188, { k := .arr 6 3, size := 6, bytes := 48, ty := none, offs := [(0, 1), (1, 1), (2, 1), (3, 1), (4, 1), (5, 1)], zero := [.int .i64 0, .int .i64 0, .int .i64 0, .int .i64 0, .int .i64 0, .int .i64 0], eq := false }),
  (207, { k := .struct, size := 3, bytes := 24, ty := some T207, offs := [(0, 1), (1, 1), (2, 1)], zero := [.int .i64 0, .int .i64 0, .int .i64 0], eq := false }),
  (210, { k := .struct, size := 3, bytes := 3, ty := some T210, offs := [(0, 1), (1, 1), (2, 1)], zero := [.lit false, .lit false, .lit false], eq := false })]
theorem tok : TOK Tryz.prog (lookT TL) := tok_of (by kernel_rfl)
theorem mix : Tryz.prog.follows .mixedOrders = true := by kernel_rfl
end Go.Proofs.YtgagpmiooeoodaaGreat.PTwo
