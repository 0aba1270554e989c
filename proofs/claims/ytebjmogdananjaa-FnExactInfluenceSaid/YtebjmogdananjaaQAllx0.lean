/- Go functions as Lean functions, each with its contract. -/
import Derived.Test.YtebjmogdananjaaChecked
import Derived.Test.YtebjmogdananjaaA11
set_option linter.unusedVariables false
set_option maxRecDepth 100000
namespace Go.Proofs.Ytebjmogdananjaa.PAll
open Go Go.Proofs Go.RowKit Go.Proofs.Ytebjmogdananjaa.A
abbrev S25 := Int × Int × Int
abbrev T25 : Ty := (.pair (.int .i64) (.pair (.int .i64) (.int .i64)))
abbrev z25 : S25 := (0, 0, 0)
abbrev S25.f0 (x : S25) : Int := x.1
abbrev S25.f1 (x : S25) : Int := x.2.1
abbrev S25.f2 (x : S25) : Int := x.2.2
abbrev S27 := Int × Int × Int × Int × Int × Int × Int
abbrev T27 : Ty := (.pair (.int .i64) (.pair (.int .i64) (.pair (.int .i64) (.pair (.int .i64) (.pair (.int .i64) (.pair (.int .i64) (.int .i64)))))))
abbrev z27 : S27 := (0, 0, 0, 0, 0, 0, 0)
abbrev S27.f0 (x : S27) : Int := x.1
abbrev S27.f1 (x : S27) : Int := x.2.1
abbrev S27.f2 (x : S27) : Int := x.2.2.1
abbrev S27.f3 (x : S27) : Int := x.2.2.2.1
abbrev S27.f4 (x : S27) : Int := x.2.2.2.2.1
abbrev S27.f5 (x : S27) : Int := x.2.2.2.2.2.1
abbrev S27.f6 (x : S27) : Int := x.2.2.2.2.2.2
abbrev S115 := Int × Int
abbrev T115 : Ty := (.pair (.int .i64) (.int .i64))
abbrev z115 : S115 := (0, 0)
abbrev S115.f0 (x : S115) : Int := x.1
abbrev S115.f1 (x : S115) : Int := x.2
abbrev S120 := Int × Int × Int
abbrev T120 : Ty := (.pair (.int .i64) (.pair (.int .i64) (.int .i64)))
abbrev z120 : S120 := (0, 0, 0)
abbrev S120.f0 (x : S120) : Int := x.1
abbrev S120.f1 (x : S120) : Int := x.2.1
abbrev S120.f2 (x : S120) : Int := x.2.2
abbrev S118 := ByteArray × Int × S115 × (List S120)
abbrev T118 : Ty := (.pair .str (.pair (.int .i64) (.pair T115 (.sl T120))))
abbrev z118 : S118 := (ByteArray.empty, 0, z115, [])
abbrev S118.f0 (x : S118) : ByteArray := x.1
abbrev S118.f1 (x : S118) : Int := x.2.1
abbrev S118.f2 (x : S118) : S115 := x.2.2.1
abbrev S118.f3 (x : S118) : List S120 := x.2.2.2
abbrev S39 := Int × Int × Int × Int
abbrev T39 : Ty := (.pair (.int .i64) (.pair (.int .i64) (.pair (.int .i64) (.int .i64))))
abbrev z39 : S39 := (0, 0, 0, 0)
abbrev S39.f0 (x : S39) : Int := x.1
abbrev S39.f1 (x : S39) : Int := x.2.1
abbrev S39.f2 (x : S39) : Int := x.2.2.1
abbrev S39.f3 (x : S39) : Int := x.2.2.2
abbrev S44 := Int × Int × Int
abbrev T44 : Ty := (.pair (.int .i64) (.pair (.int .i64) (.int .i64)))
abbrev z44 : S44 := (0, 0, 0)
abbrev S44.f0 (x : S44) : Int := x.1
abbrev S44.f1 (x : S44) : Int := x.2.1
abbrev S44.f2 (x : S44) : Int := x.2.2
abbrev S33 := Int × S25 × Int × S27 × Int × Int × Int × (List S118) × (List Int) × (List S39) × (List S44)
abbrev T33 : Ty := (.pair (.int .i64) (.pair T25 (.pair (.int .i64) (.pair T27 (.pair (.int .i64) (.pair (.int .i64) (.pair (.int .i64) (.pair (.sl T118) (.pair (.sl (.int .i64)) (.pair (.sl T39) (.sl T44)))))))))))
abbrev z33 : S33 := (0, z25, 0, z27, 0, 0, 0, [], [], [], [])
abbrev S33.f0 (x : S33) : Int := x.1
abbrev S33.f1 (x : S33) : S25 := x.2.1
abbrev S33.f2 (x : S33) : Int := x.2.2.1
abbrev S33.f3 (x : S33) : S27 := x.2.2.2.1
abbrev S33.f4 (x : S33) : Int := x.2.2.2.2.1
abbrev S33.f5 (x : S33) : Int := x.2.2.2.2.2.1
abbrev S33.f6 (x : S33) : Int := x.2.2.2.2.2.2.1
abbrev S33.f7 (x : S33) : List S118 := x.2.2.2.2.2.2.2.1
abbrev S33.f8 (x : S33) : List Int := x.2.2.2.2.2.2.2.2.1
abbrev S33.f9 (x : S33) : List S39 := x.2.2.2.2.2.2.2.2.2.1
abbrev S33.f10 (x : S33) : List S44 := x.2.2.2.2.2.2.2.2.2.2
abbrev S60 := Int × Int × Int
abbrev T60 : Ty := (.pair (.int .i64) (.pair (.int .i64) (.int .i64)))
abbrev z60 : S60 := (0, 0, 0)
abbrev S60.f0 (x : S60) : Int := x.1
abbrev S60.f1 (x : S60) : Int := x.2.1
abbrev S60.f2 (x : S60) : Int := x.2.2
abbrev S61 := Int × Int × Int × Int × Int × Int × Int
abbrev T61 : Ty := (.pair (.int .i64) (.pair (.int .i64) (.pair (.int .i64) (.pair (.int .i64) (.pair (.int .i64) (.pair (.int .i64) (.int .i64)))))))
abbrev z61 : S61 := (0, 0, 0, 0, 0, 0, 0)
abbrev S61.f0 (x : S61) : Int := x.1
abbrev S61.f1 (x : S61) : Int := x.2.1
abbrev S61.f2 (x : S61) : Int := x.2.2.1
abbrev S61.f3 (x : S61) : Int := x.2.2.2.1
abbrev S61.f4 (x : S61) : Int := x.2.2.2.2.1
abbrev S61.f5 (x : S61) : Int := x.2.2.2.2.2.1
abbrev S61.f6 (x : S61) : Int := x.2.2.2.2.2.2
abbrev S140 := Int × Int
abbrev T140 : Ty := (.pair (.int .i64) (.int .i64))
abbrev z140 : S140 := (0, 0)
abbrev S140.f0 (x : S140) : Int := x.1
abbrev S140.f1 (x : S140) : Int := x.2
abbrev S187 := Int × Int × Int
abbrev T187 : Ty := (.pair (.int .i64) (.pair (.int .i64) (.int .i64)))
abbrev z187 : S187 := (0, 0, 0)
abbrev S187.f0 (x : S187) : Int := x.1
abbrev S187.f1 (x : S187) : Int := x.2.1
abbrev S187.f2 (x : S187) : Int := x.2.2
abbrev S143 := ByteArray × Int × S140 × (List S187)
abbrev T143 : Ty := (.pair .str (.pair (.int .i64) (.pair T140 (.sl T187))))
abbrev z143 : S143 := (ByteArray.empty, 0, z140, [])
abbrev S143.f0 (x : S143) : ByteArray := x.1
abbrev S143.f1 (x : S143) : Int := x.2.1
abbrev S143.f2 (x : S143) : S140 := x.2.2.1
abbrev S143.f3 (x : S143) : List S187 := x.2.2.2
abbrev S146 := Int × Int × Int × Int
abbrev T146 : Ty := (.pair (.int .i64) (.pair (.int .i64) (.pair (.int .i64) (.int .i64))))
abbrev z146 : S146 := (0, 0, 0, 0)
abbrev S146.f0 (x : S146) : Int := x.1
abbrev S146.f1 (x : S146) : Int := x.2.1
abbrev S146.f2 (x : S146) : Int := x.2.2.1
abbrev S146.f3 (x : S146) : Int := x.2.2.2
abbrev S148 := Int × Int × Int
abbrev T148 : Ty := (.pair (.int .i64) (.pair (.int .i64) (.int .i64)))
abbrev z148 : S148 := (0, 0, 0)
abbrev S148.f0 (x : S148) : Int := x.1
abbrev S148.f1 (x : S148) : Int := x.2.1
abbrev S148.f2 (x : S148) : Int := x.2.2
abbrev S66 := Int × S60 × Int × S61 × Int × Int × Int × (List S143) × (List Int) × (List S146) × (List S148)
abbrev T66 : Ty := (.pair (.int .i64) (.pair T60 (.pair (.int .i64) (.pair T61 (.pair (.int .i64) (.pair (.int .i64) (.pair (.int .i64) (.pair (.sl T143) (.pair (.sl (.int .i64)) (.pair (.sl T146) (.sl T148)))))))))))
abbrev z66 : S66 := (0, z60, 0, z61, 0, 0, 0, [], [], [], [])
abbrev S66.f0 (x : S66) : Int := x.1
abbrev S66.f1 (x : S66) : S60 := x.2.1
abbrev S66.f2 (x : S66) : Int := x.2.2.1
abbrev S66.f3 (x : S66) : S61 := x.2.2.2.1
abbrev S66.f4 (x : S66) : Int := x.2.2.2.2.1
abbrev S66.f5 (x : S66) : Int := x.2.2.2.2.2.1
abbrev S66.f6 (x : S66) : Int := x.2.2.2.2.2.2.1
abbrev S66.f7 (x : S66) : List S143 := x.2.2.2.2.2.2.2.1
abbrev S66.f8 (x : S66) : List Int := x.2.2.2.2.2.2.2.2.1
abbrev S66.f9 (x : S66) : List S146 := x.2.2.2.2.2.2.2.2.2.1
abbrev S66.f10 (x : S66) : List S148 := x.2.2.2.2.2.2.2.2.2.2
abbrev S180 := Bool × Bool × Bool
abbrev T180 : Ty := (.pair .bool (.pair .bool .bool))
abbrev z180 : S180 := (false, false, false)
abbrev S180.f0 (x : S180) : Bool := x.1
abbrev S180.f1 (x : S180) : Bool := x.2.1
abbrev S180.f2 (x : S180) : Bool := x.2.2
abbrev rd (l : List Int) (i : Int) : Int := l.getD i.toNat 0
abbrev rd_str (l : List ByteArray) (i : Int) : ByteArray := l.getD i.toNat ByteArray.empty
abbrev rd_bool (l : List Bool) (i : Int) : Bool := l.getD i.toNat false
abbrev rd_T118 (l : List S118) (i : Int) : S118 := l.getD i.toNat z118
abbrev rd_T120 (l : List S120) (i : Int) : S120 := l.getD i.toNat z120
abbrev rd_T143 (l : List S143) (i : Int) : S143 := l.getD i.toNat z143
abbrev rd_T146 (l : List S146) (i : Int) : S146 := l.getD i.toNat z146
abbrev rd_T148 (l : List S148) (i : Int) : S148 := l.getD i.toNat z148
abbrev rd_T187 (l : List S187) (i : Int) : S187 := l.getD i.toNat z187
abbrev rd_T39 (l : List S39) (i : Int) : S39 := l.getD i.toNat z39
abbrev rd_T44 (l : List S44) (i : Int) : S44 := l.getD i.toNat z44
def TL : List (Nat × TI) := [
  (3, { k := .int .i64, size := 1, bytes := 8, ty := some (.int .i64), offs := [], zero := [.int .i64 0] }),
  (4, { k := .bool, size := 1, bytes := 1, ty := some .bool, offs := [], zero := [.lit false] }),
  (5, { k := .int .u8, size := 1, bytes := 1, ty := some (.int .u8), offs := [], zero := [.int .u8 0] }),
  (9, { k := .str, size := 1, bytes := 16, ty := some .str, offs := [], zero := [.str ByteArray.empty] }),
  (25, { k := .struct, size := 3, bytes := 24, ty := some T25, offs := [(0, 1), (1, 1), (2, 1)], zero := [.int .i64 0, .int .i64 0, .int .i64 0] }),
  (27, { k := .struct, size := 7, bytes := 56, ty := some T27, offs := [(0, 1), (1, 1), (2, 1), (3, 1), (4, 1), (5, 1), (6, 1)], zero := [.int .i64 0, .int .i64 0, .int .i64 0, .int .i64 0, .int .i64 0, .int .i64 0, .int .i64 0] }),
  (28, { k := .slice 118, size := 1, bytes := 24, ty := some (.sl T118), offs := [], zero := [.nil] }),
  (29, { k := .slice 3, size := 1, bytes := 24, ty := some (.sl (.int .i64)), offs := [], zero := [.nil] }),
  (30, { k := .slice 39, size := 1, bytes := 24, ty := some (.sl T39), offs := [], zero := [.nil] }),
  (31, { k := .slice 44, size := 1, bytes := 24, ty := some (.sl T44), offs := [], zero := [.nil] }),
  (33, { k := .struct, size := 19, bytes := 216, ty := some T33, offs := [(0, 1), (1, 3), (4, 1), (5, 7), (12, 1), (13, 1), (14, 1), (15, 1), (16, 1), (17, 1), (18, 1)], zero := [.int .i64 0, .int .i64 0, .int .i64 0, .int .i64 0, .int .i64 0, .int .i64 0, .int .i64 0, .int .i64 0, .int .i64 0, .int .i64 0, .int .i64 0, .int .i64 0, .int .i64 0, .int .i64 0, .int .i64 0, .nil, .nil, .nil, .nil] }),
  (39, { k := .struct, size := 4, bytes := 32, ty := some T39, offs := [(0, 1), (1, 1), (2, 1), (3, 1)], zero := [.int .i64 0, .int .i64 0, .int .i64 0, .int .i64 0] }),
  (44, { k := .struct, size := 3, bytes := 24, ty := some T44, offs := [(0, 1), (1, 1), (2, 1)], zero := [.int .i64 0, .int .i64 0, .int .i64 0] }),
  (60, { k := .struct, size := 3, bytes := 24, ty := some T60, offs := [(0, 1), (1, 1), (2, 1)], zero := [.int .i64 0, .int .i64 0, .int .i64 0] }),
  (61, { k := .struct, size := 7, bytes := 56, ty := some T61, offs := [(0, 1), (1, 1), (2, 1), (3, 1), (4, 1), (5, 1), (6, 1)], zero := [.int .i64 0, .int .i64 0, .int .i64 0, .int .i64 0, .int .i64 0, .int .i64 0, .int .i64 0] }),
  (62, { k := .slice 143, size := 1, bytes := 24, ty := some (.sl T143), offs := [], zero := [.nil] }),
  (63, { k := .slice 146, size := 1, bytes := 24, ty := some (.sl T146), offs := [], zero := [.nil] }),
  (64, { k := .slice 148, size := 1, bytes := 24, ty := some (.sl T148), offs := [], zero := [.nil] }),
  (66, { k := .struct, size := 19, bytes := 216, ty := some T66, offs := [(0, 1), (1, 3), (4, 1), (5, 7), (12, 1), (13, 1), (14, 1), (15, 1), (16, 1), (17, 1), (18, 1)], zero := [.int .i64 0, .int .i64 0, .int .i64 0, .int .i64 0, .int .i64 0, .int .i64 0, .int .i64 0, .int .i64 0, .int .i64 0, .int .i64 0, .int .i64 0, .int .i64 0, .int .i64 0, .int .i64 0, .int .i64 0, .nil, .nil, .nil, .nil] }),
  (115, { k := .struct, size := 2, bytes := 16, ty := some T115, offs := [(0, 1), (1, 1)], zero := [.int .i64 0, .int .i64 0] }),
  (116, { k := .slice 120, size := 1, bytes := 24, ty := some (.sl T120), offs := [], zero := [.nil] }),
  (118, { k := .struct, size := 5, bytes := 64, ty := some T118, offs := [(0, 1), (1, 1), (2, 2), (4, 1)], zero := [.str ByteArray.empty, .int .i64 0, .int .i64 0, .int .i64 0, .nil] }),
  (120, { k := .struct, size := 3, bytes := 24, ty := some T120, offs := [(0, 1), (1, 1), (2, 1)], zero := [.int .i64 0, .int .i64 0, .int .i64 0] }),
  (133, { k := .slice 4, size := 1, bytes := 24, ty := some (.sl .bool), offs := [], zero := [.nil] }),
  (140, { k := .struct, size := 2, bytes := 16, ty := some T140, offs := [(0, 1), (1, 1)], zero := [.int .i64 0, .int .i64 0] }),
  (141, { k := .slice 187, size := 1, bytes := 24, ty := some (.sl T187), offs := [], zero := [.nil] }),
  (143, { k := .struct, size := 5, bytes := 64, ty := some T143, offs := [(0, 1), (1, 1), (2, 2), (4, 1)], zero := [.str ByteArray.empty, .int .i64 0, .int .i64 0, .int .i64 0, .nil] }),
  (146, { k := .struct, size := 4, bytes := 32, ty := some T146, offs := [(0, 1), (1, 1), (2, 1), (3, 1)], zero := [.int .i64 0, .int .i64 0, .int .i64 0, .int .i64 0] }),
  (148, { k := .struct, size := 3, bytes := 24, ty := some T148, offs := [(0, 1), (1, 1), (2, 1)], zero := [.int .i64 0, .int .i64 0, .int .i64 0] }),
  (157, { k := .arr 6 3, size := 6, bytes := 48, ty := none, offs := [(0, 1), (1, 1), (2, 1), (3, 1), (4, 1), (5, 1)], zero := [.int .i64 0, .int .i64 0, .int .i64 0, .int .i64 0, .int .i64 0, .int .i64 0] }),
  (180, { k := .struct, size := 3, bytes := 3, ty := some T180, offs := [(0, 1), (1, 1), (2, 1)], zero := [.lit false, .lit false, .lit false] }),
  (187, { k := .struct, size := 3, bytes := 24, ty := some T187, offs := [(0, 1), (1, 1), (2, 1)], zero := [.int .i64 0, .int .i64 0, .int .i64 0] })]
theorem tok : TOK Try.prog (lookT TL) := tok_of (by kernel_rfl)
theorem mix : Try.prog.follows .mixedOrders = true := by kernel_rfl
end Go.Proofs.Ytebjmogdananjaa.PAll
