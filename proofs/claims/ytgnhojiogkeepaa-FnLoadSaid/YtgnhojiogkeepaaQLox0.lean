/- Go functions as Lean functions, each with its contract. -/
import Derived.Test.YtgnhojiogkeepaaChecked
import Derived.Test.YtgnhojiogkeepaaV12
set_option linter.unusedVariables false
set_option maxRecDepth 100000
namespace Go.Proofs.Ytgnhojiogkeepaa.PLo
open Go Go.Proofs Go.RowKit Go.Proofs.Ytgnhojiogkeepaa.V
noncomputable section
abbrev S29 := (List Int) × Int × (List (List Int))
abbrev T29 : Ty := (.pair (.sl (.int .u32)) (.pair (.int .u32) (.sl (.sl (.int .u8)))))
abbrev z29 : S29 := ([], 0, [])
abbrev S29.f0 (x : S29) : List Int := x.1
abbrev S29.f1 (x : S29) : Int := x.2.1
abbrev S29.f2 (x : S29) : List (List Int) := x.2.2
abbrev S40 := Int × Int × Int
abbrev T40 : Ty := (.pair (.int .i64) (.pair (.int .i64) (.int .i64)))
abbrev z40 : S40 := (0, 0, 0)
abbrev S40.f0 (x : S40) : Int := x.1
abbrev S40.f1 (x : S40) : Int := x.2.1
abbrev S40.f2 (x : S40) : Int := x.2.2
abbrev S42 := Int × Int × Int
abbrev T42 : Ty := (.pair (.int .i64) (.pair (.int .i64) (.int .i64)))
abbrev z42 : S42 := (0, 0, 0)
abbrev S42.f0 (x : S42) : Int := x.1
abbrev S42.f1 (x : S42) : Int := x.2.1
abbrev S42.f2 (x : S42) : Int := x.2.2
abbrev S44 := Int × Int × Int × Int × Int × Int × Int
abbrev T44 : Ty := (.pair (.int .i64) (.pair (.int .i64) (.pair (.int .i64) (.pair (.int .i64) (.pair (.int .i64) (.pair (.int .i64) (.int .i64)))))))
abbrev z44 : S44 := (0, 0, 0, 0, 0, 0, 0)
abbrev S44.f0 (x : S44) : Int := x.1
abbrev S44.f1 (x : S44) : Int := x.2.1
abbrev S44.f2 (x : S44) : Int := x.2.2.1
abbrev S44.f3 (x : S44) : Int := x.2.2.2.1
abbrev S44.f4 (x : S44) : Int := x.2.2.2.2.1
abbrev S44.f5 (x : S44) : Int := x.2.2.2.2.2.1
abbrev S44.f6 (x : S44) : Int := x.2.2.2.2.2.2
abbrev S73 := Int × Int
abbrev T73 : Ty := (.pair (.int .i64) (.int .i64))
abbrev z73 : S73 := (0, 0)
abbrev S73.f0 (x : S73) : Int := x.1
abbrev S73.f1 (x : S73) : Int := x.2
abbrev S75 := ByteArray × Int × S73 × (List S40)
abbrev T75 : Ty := (.pair .str (.pair (.int .i64) (.pair T73 (.sl T40))))
abbrev z75 : S75 := (ByteArray.empty, 0, z73, [])
abbrev S75.f0 (x : S75) : ByteArray := x.1
abbrev S75.f1 (x : S75) : Int := x.2.1
abbrev S75.f2 (x : S75) : S73 := x.2.2.1
abbrev S75.f3 (x : S75) : List S40 := x.2.2.2
abbrev S117 := Int × Int × Int × Int
abbrev T117 : Ty := (.pair (.int .i64) (.pair (.int .i64) (.pair (.int .i64) (.int .i64))))
abbrev z117 : S117 := (0, 0, 0, 0)
abbrev S117.f0 (x : S117) : Int := x.1
abbrev S117.f1 (x : S117) : Int := x.2.1
abbrev S117.f2 (x : S117) : Int := x.2.2.1
abbrev S117.f3 (x : S117) : Int := x.2.2.2
abbrev S86 := Int × Int × Int
abbrev T86 : Ty := (.pair (.int .i64) (.pair (.int .i64) (.int .i64)))
abbrev z86 : S86 := (0, 0, 0)
abbrev S86.f0 (x : S86) : Int := x.1
abbrev S86.f1 (x : S86) : Int := x.2.1
abbrev S86.f2 (x : S86) : Int := x.2.2
abbrev S50 := Int × S42 × Int × S44 × Int × Int × Int × (List S75) × (List Int) × (List S117) × (List S86)
abbrev T50 : Ty := (.pair (.int .i64) (.pair T42 (.pair (.int .i64) (.pair T44 (.pair (.int .i64) (.pair (.int .i64) (.pair (.int .i64) (.pair (.sl T75) (.pair (.sl (.int .i64)) (.pair (.sl T117) (.sl T86)))))))))))
abbrev z50 : S50 := (0, z42, 0, z44, 0, 0, 0, [], [], [], [])
abbrev S50.f0 (x : S50) : Int := x.1
abbrev S50.f1 (x : S50) : S42 := x.2.1
abbrev S50.f2 (x : S50) : Int := x.2.2.1
abbrev S50.f3 (x : S50) : S44 := x.2.2.2.1
abbrev S50.f4 (x : S50) : Int := x.2.2.2.2.1
abbrev S50.f5 (x : S50) : Int := x.2.2.2.2.2.1
abbrev S50.f6 (x : S50) : Int := x.2.2.2.2.2.2.1
abbrev S50.f7 (x : S50) : List S75 := x.2.2.2.2.2.2.2.1
abbrev S50.f8 (x : S50) : List Int := x.2.2.2.2.2.2.2.2.1
abbrev S50.f9 (x : S50) : List S117 := x.2.2.2.2.2.2.2.2.2.1
abbrev S50.f10 (x : S50) : List S86 := x.2.2.2.2.2.2.2.2.2.2
abbrev S56 := Bool × Int × Int × Int × Int × Bool × Bool × Int
abbrev T56 : Ty := (.pair .bool (.pair (.int .u32) (.pair (.int .u32) (.pair (.int .u32) (.pair (.int .u32) (.pair .bool (.pair .bool (.int .u32))))))))
abbrev z56 : S56 := (false, 0, 0, 0, 0, false, false, 0)
abbrev S56.f0 (x : S56) : Bool := x.1
abbrev S56.f1 (x : S56) : Int := x.2.1
abbrev S56.f2 (x : S56) : Int := x.2.2.1
abbrev S56.f3 (x : S56) : Int := x.2.2.2.1
abbrev S56.f4 (x : S56) : Int := x.2.2.2.2.1
abbrev S56.f5 (x : S56) : Bool := x.2.2.2.2.2.1
abbrev S56.f6 (x : S56) : Bool := x.2.2.2.2.2.2.1
abbrev S56.f7 (x : S56) : Int := x.2.2.2.2.2.2.2
abbrev S58 := Int × Int × Int × Bool
abbrev T58 : Ty := (.pair (.int .i64) (.pair (.int .i64) (.pair (.int .i64) .bool)))
abbrev z58 : S58 := (0, 0, 0, false)
abbrev S58.f0 (x : S58) : Int := x.1
abbrev S58.f1 (x : S58) : Int := x.2.1
abbrev S58.f2 (x : S58) : Int := x.2.2.1
abbrev S58.f3 (x : S58) : Bool := x.2.2.2
abbrev S212 := Int × Bool
abbrev T212 : Ty := (.pair (.int .i64) .bool)
abbrev z212 : S212 := (0, false)
abbrev S212.f0 (x : S212) : Int := x.1
abbrev S212.f1 (x : S212) : Bool := x.2
abbrev S61 := S42 × (List (List S212))
abbrev T61 : Ty := (.pair T42 (.sl (.sl T212)))
abbrev z61 : S61 := (z42, [])
abbrev S61.f0 (x : S61) : S42 := x.1
abbrev S61.f1 (x : S61) : List (List S212) := x.2
abbrev S63 := Int × (List Int)
abbrev T63 : Ty := (.pair (.int .i64) (.sl (.int .i64)))
abbrev z63 : S63 := (0, [])
abbrev S63.f0 (x : S63) : Int := x.1
abbrev S63.f1 (x : S63) : List Int := x.2
abbrev S204 := Int × (List Int)
abbrev T204 : Ty := (.pair (.int .i64) (.sl (.int .u32)))
abbrev z204 : S204 := (0, [])
abbrev S204.f0 (x : S204) : Int := x.1
abbrev S204.f1 (x : S204) : List Int := x.2
abbrev S206 := (List Int)
abbrev T206 : Ty := (.sl (.int .u32))
abbrev z206 : S206 := []
abbrev S206.f0 (x : S206) : List Int := x
abbrev S208 := (List Int) × (List Int)
abbrev T208 : Ty := (.pair (.sl (.int .u32)) (.sl (.int .u32)))
abbrev z208 : S208 := ([], [])
abbrev S208.f0 (x : S208) : List Int := x.1
abbrev S208.f1 (x : S208) : List Int := x.2
abbrev S68 := S29 × S56 × S58 × S61 × S63 × Int × Bool × (List (List Int)) × (List S204) × (List S206) × (List S208)
abbrev T68 : Ty := (.pair T29 (.pair T56 (.pair T58 (.pair T61 (.pair T63 (.pair (.int .i64) (.pair .bool (.pair (.sl (.sl (.int .u8))) (.pair (.sl T204) (.pair (.sl T206) (.sl T208)))))))))))
abbrev z68 : S68 := (z29, z56, z58, z61, z63, 0, false, [], [], [], [])
abbrev S68.f0 (x : S68) : S29 := x.1
abbrev S68.f1 (x : S68) : S56 := x.2.1
abbrev S68.f2 (x : S68) : S58 := x.2.2.1
abbrev S68.f3 (x : S68) : S61 := x.2.2.2.1
abbrev S68.f4 (x : S68) : S63 := x.2.2.2.2.1
abbrev S68.f5 (x : S68) : Int := x.2.2.2.2.2.1
abbrev S68.f6 (x : S68) : Bool := x.2.2.2.2.2.2.1
abbrev S68.f7 (x : S68) : List (List Int) := x.2.2.2.2.2.2.2.1
abbrev S68.f8 (x : S68) : List S204 := x.2.2.2.2.2.2.2.2.1
abbrev S68.f9 (x : S68) : List S206 := x.2.2.2.2.2.2.2.2.2.1
abbrev S68.f10 (x : S68) : List S208 := x.2.2.2.2.2.2.2.2.2.2
abbrev S119 := (List Int) × Int × Int
abbrev T119 : Ty := (.pair (.sl (.int .u8)) (.pair (.int .i64) (.int .i64)))
abbrev z119 : S119 := ([], 0, 0)
abbrev S119.f0 (x : S119) : List Int := x.1
abbrev S119.f1 (x : S119) : Int := x.2.1
abbrev S119.f2 (x : S119) : Int := x.2.2
abbrev S179 := Bool × Bool × Bool
abbrev T179 : Ty := (.pair .bool (.pair .bool .bool))
abbrev z179 : S179 := (false, false, false)
abbrev S179.f0 (x : S179) : Bool := x.1
abbrev S179.f1 (x : S179) : Bool := x.2.1
abbrev S179.f2 (x : S179) : Bool := x.2.2
abbrev rd (l : List Int) (i : Int) : Int := l.getD i.toNat 0
abbrev rd_str (l : List ByteArray) (i : Int) : ByteArray := l.getD i.toNat ByteArray.empty
abbrev rd_bool (l : List Bool) (i : Int) : Bool := l.getD i.toNat false
abbrev rd_ListInt (l : List (List Int)) (i : Int) : List Int := l.getD i.toNat []
abbrev rd_T117 (l : List S117) (i : Int) : S117 := l.getD i.toNat z117
abbrev rd_T40 (l : List S40) (i : Int) : S40 := l.getD i.toNat z40
abbrev rd_T75 (l : List S75) (i : Int) : S75 := l.getD i.toNat z75
abbrev rd_T86 (l : List S86) (i : Int) : S86 := l.getD i.toNat z86
def TL : List (Nat × TI) := [
  (3, { k := .int .i64, size := 1, bytes := 8, ty := some (.int .i64), offs := [], zero := [.int .i64 0], eq := false }),
  (4, { k := .bool, size := 1, bytes := 1, ty := some .bool, offs := [], zero := [.lit false], eq := false }),
  (5, { k := .int .u8, size := 1, bytes := 1, ty := some (.int .u8), offs := [], zero := [.int .u8 0], eq := false }),
  (9, { k := .str, size := 1, bytes := 16, ty := some .str, offs := [], zero := [.str ByteArray.empty], eq := false }),
  (22, { k := .slice 5, size := 1, bytes := 24, ty := some (.sl (.int .u8)), offs := [], zero := [.nil], eq := false }),
  (24, { k := .slice 40, size := 1, bytes := 24, ty := some (.sl T40), offs := [], zero := [.nil], eq := false }),
  (25, { k := .slice 26, size := 1, bytes := 24, ty := some (.sl (.int .u32)), offs := [], zero := [.nil], eq := false }),
  (26, { k := .int .u32, size := 1, bytes := 4, ty := some (.int .u32), offs := [], zero := [.int .u32 0], eq := false }),
  (27, { k := .slice 22, size := 1, bytes := 24, ty := some (.sl (.sl (.int .u8))), offs := [], zero := [.nil], eq := false }),
  (29, { k := .struct, size := 3, bytes := 56, ty := some T29, offs := [(0, 1), (1, 1), (2, 1)], zero := [.nil, .int .u32 0, .nil], eq := false }),
  (40, { k := .struct, size := 3, bytes := 24, ty := some T40, offs := [(0, 1), (1, 1), (2, 1)], zero := [.int .i64 0, .int .i64 0, .int .i64 0], eq := false }),
  (42, { k := .struct, size := 3, bytes := 24, ty := some T42, offs := [(0, 1), (1, 1), (2, 1)], zero := [.int .i64 0, .int .i64 0, .int .i64 0], eq := false }),
  (44, { k := .struct, size := 7, bytes := 56, ty := some T44, offs := [(0, 1), (1, 1), (2, 1), (3, 1), (4, 1), (5, 1), (6, 1)], zero := [.int .i64 0, .int .i64 0, .int .i64 0, .int .i64 0, .int .i64 0, .int .i64 0, .int .i64 0], eq := false }),
  (45, { k := .slice 75, size := 1, bytes := 24, ty := some (.sl T75), offs := [], zero := [.nil], eq := false }),
  (46, { k := .slice 3, size := 1, bytes := 24, ty := some (.sl (.int .i64)), offs := [], zero := [.nil], eq := false }),
  (47, { k := .slice 117, size := 1, bytes := 24, ty := some (.sl T117), offs := [], zero := [.nil], eq := false }),
  (48, { k := .slice 86, size := 1, bytes := 24, ty := some (.sl T86), offs := [], zero := [.nil], eq := false }),
  (50, { k := .struct, size := 19, bytes := 216, ty := some T50, offs := [(0, 1), (1, 3), (4, 1), (5, 7), (12, 1), (13, 1), (14, 1), (15, 1), (16, 1), (17, 1), (18, 1)], zero := [.int .i64 0, .int .i64 0, .int .i64 0, .int .i64 0, .int .i64 0, .int .i64 0, .int .i64 0, .int .i64 0, .int .i64 0, .int .i64 0, .int .i64 0, .int .i64 0, .int .i64 0, .int .i64 0, .int .i64 0, .nil, .nil, .nil, .nil], eq := false }),
  (59, { k := .slice 202, size := 1, bytes := 24, ty := some (.sl (.sl T212)), offs := [], zero := [.nil], eq := false }),
  (61, { k := .struct, size := 4, bytes := 48, ty := some T61, offs := [(0, 3), (3, 1)], zero := [.int .i64 0, .int .i64 0, .int .i64 0, .nil], eq := false }),
  (63, { k := .struct, size := 2, bytes := 32, ty := some T63, offs := [(0, 1), (1, 1)], zero := [.int .i64 0, .nil], eq := false }),
  (64, { k := .slice 204, size := 1, bytes := 24, ty := some (.sl T204), offs := [], zero := [.nil], eq := false }),
  (65, { k := .slice 206, size := 1, bytes := 24, ty := some (.sl T206), offs := [], zero := [.nil], eq := false }),
  (66, { k := .slice 208, size := 1, bytes := 24, ty := some (.sl T208), offs := [], zero := [.nil], eq := false }),
  (68, { k := .struct, size := 27, bytes := 312, ty := some T68, offs := [(0, 3), (3, 8), (11, 4), (15, 4), (19, 2), (21, 1), (22, 1), (23, 1), (24, 1), (25, 1), (26, 1)], zero := [.nil, .int .u32 0, .nil, .lit false, .int .u32 0, .int .u32 0, .int .u32 0, .int .u32 0, .lit false, .lit false, .int .u32 0, .int .i64 0, .int .i64 0, .int .i64 0, .lit false, .int .i64 0, .int .i64 0, .int .i64 0, .nil, .int .i64 0, .nil, .int .i64 0, .lit false, .nil, .nil, .nil, .nil], eq := false }),
  (73, { k := .struct, size := 2, bytes := 16, ty := some T73, offs := [(0, 1), (1, 1)], zero := [.int .i64 0, .int .i64 0], eq := false }),
  (75, { k := .struct, size := 5, bytes := 64, ty := some T75, offs := [(0, 1), (1, 1), (2, 2), (4, 1)], zero := [.str ByteArray.empty, .int .i64 0, .int .i64 0, .int .i64 0, .nil], eq := false }),
  (86, { k := .struct, size := 3, bytes := 24, ty := some T86, offs := [(0, 1), (1, 1), (2, 1)], zero := [.int .i64 0, .int .i64 0, .int .i64 0], eq := false }),
  (117, { k := .struct, size := 4, bytes := 32, ty := some T117, offs := [(0, 1), (1, 1), (2, 1), (3, 1)], zero := [.int .i64 0, .int .i64 0, .int .i64 0, .int .i64 0], eq := false }),
  (119, { k := .struct, size := 3, bytes := 40, ty := some T119, offs := [(0, 1), (1, 1), (2, 1)], zero := [.nil, .int .i64 0, .int .i64 0], eq := false }),
  (133, { k := .slice 9, size := 1, bytes := 24, ty := some (.sl .str), offs := [], zero := [.nil], eq := false }),
  (163, { k := .arr 6 3, size := 6, bytes := 48, ty := none, offs := [(0, 1), (1, 1), (2, 1), (3, 1), (4, 1), (5, 1)], zero := [.int .i64 0, .int .i64 0, .int .i64 0, .int .i64 0, .int .i64 0, .int .i64 0], eq := false }),
  (179, { k := .struct, size := 3, bytes := 3, ty := some T179, offs := [(0, 1), (1, 1), (2, 1)], zero := [.lit false, .lit false, .lit false], eq := false }),
  (202, { k := .slice 212, size := 1, bytes := 24, ty := some (.sl T212), offs := [], zero := [.nil], eq := false }),
  (204, { k := .struct, size := 2, bytes := 32, ty := some T204, offs := [(0, 1), (1, 1)], zero := [.int .i64 0, .nil], eq := false }),
  (206, { k := .struct, size := 1, bytes := 24, ty := some T206, offs := [(0, 1)], zero := [.nil], eq := false }),
  (208, { k := .struct, size := 2, bytes := 48, ty := some T208, offs := [(0, 1), (1, 1)], zero := [.nil, .nil], eq := false })]
theorem tok : TOK Try.prog (lookT TL) := tok_of (by kernel_rfl)
theorem mix : Try.prog.follows .mixedOrders = true := by kernel_rfl
end
end Go.Proofs.Ytgnhojiogkeepaa.PLo
