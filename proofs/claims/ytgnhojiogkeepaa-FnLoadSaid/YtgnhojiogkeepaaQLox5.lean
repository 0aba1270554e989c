/- Go functions as Lean functions, each with its contract. -/
import Derived.Test.YtgnhojiogkeepaaQLox4
set_option linter.unusedVariables false
set_option maxRecDepth 100000
namespace Go.Proofs.Ytgnhojiogkeepaa.PLo
open Go Go.Proofs Go.RowKit Go.Proofs.Ytgnhojiogkeepaa.V
noncomputable section
/-! ### loop.example/g00076/impl.worstPad: function 102 -/
def impl_worstPad.l6 : Nat → Int → (List S117) → Int → Int → S44 → Option (Int)
  | 0, _, _, _, _, _ => none
  | k + 1, x7, x22, x23, x24, y0 => if x24 < x23 then (if 0 ≤ x24 then (if x24 < (x22.length : Int) then ((impl_depthOf.f (rd_T117 x22 x24)).bind fun t1 => (impl_worstPad.l6 k (wrap64 (x7 + (wrap64 (y0.f0 * t1)))) x22 x23 (wrap64 (x24 + 1)) y0)) else none) else none) else (some x7)
def impl_worstPad.f (k : Nat) (a0 : S44) (a1 : S42) (a2 : List S117) : Option (Int) := impl_worstPad.l6 k (wrap64 ((wrap64 (16 * a0.f0)) + (wrap64 ((wrap64 (a1.f0 * a1.f1)) * a0.f6)))) a2 (a2.length : Int) 0 a0
def impl_worstPad.c : FnD := { f := 102, sh := false, ps := [.agg T44, .agg T42, .c (.sl T117)], pb := [], vc := .c (.int .i64), bs := [], R := Int, fn := fun k x y => impl_worstPad.f k x.1 x.2.1 x.2.2.1, out := fun y => (y, ()), inn := fun d => d.1, inv := fun _ => rfl }
theorem impl_worstPad.ok : impl_worstPad.c.OK Try.prog :=
  FnD.of impl_worstPad.c mix tok (fn := Try.f102) Try.func102 (by kernel_rfl) (fun _ _ => by kernel_rfl) (by kernel_rfl) (by kernel_rfl) [impl_depthOf.c] ⟨impl_depthOf.ok, trivial⟩
    [{ lbl := 6, live := [(3, none), (7, none), (22, none), (23, none), (24, none)], ms := [], vs := [.c (.ptr 0 0), .c (.int .i64), .c (.sl false T117), .c (.int .i64), .c (.int .i64)], bs := [.cells 44 [.int .i64, .int .i64, .int .i64, .int .i64, .int .i64, .int .i64, .int .i64]], f := fun k x y => impl_worstPad.l6 k x.2.1 x.2.2.1 x.2.2.2.1 x.2.2.2.2.1 (y.1.1, y.1.2.1, y.1.2.2.1, y.1.2.2.2.1, y.1.2.2.2.2.1, y.1.2.2.2.2.2.1, y.1.2.2.2.2.2.2.1) }] { c := fun _ => none, cc := [], ms := [], tn := [], sh := false, fm := [] } rfl 5000 ⟨⟨fun _ _ => rfl, fun k x y => by kernel_rfl⟩, trivial⟩ (fun k x y => by kernel_rfl)

/-! ### loop.example/g00076/impl.isSlotAt: function 139 -/
def impl_isSlotAt.f (a0 : S50) (a1 : S86) (a2 : Int) : Option (Bool) := if a1.f2 > (wrap64 (a0.f4 + a0.f5)) then (if a1.f2 ≤ a0.f6 then (if a1.f1 ≥ a2 then (some (decide (a1.f1 ≤ (wrap64 (a0.f6 - a1.f2))))) else (some false)) else (some false)) else (some false)
def impl_isSlotAt.c : FnD := { f := 139, sh := false, ps := [.agg T50, .agg T86, .c (.int .i64)], pb := [], vc := .c (.bool), bs := [], R := Bool, fn := fun _ x y => impl_isSlotAt.f x.1 x.2.1 x.2.2.1, out := fun y => (y, ()), inn := fun d => d.1, inv := fun _ => rfl }
theorem impl_isSlotAt.ok : impl_isSlotAt.c.OK Try.prog :=
  FnD.of impl_isSlotAt.c mix tok (fn := Try.f139) Try.func139 (by kernel_rfl) (fun _ _ => by kernel_rfl) (by kernel_rfl) (by kernel_rfl) [] trivial
    [] { c := fun _ => none, cc := [], ms := [], tn := [], sh := false, fm := [] } rfl 5000 trivial (fun k x y => by kernel_rfl)

/-! ### loop.example/g00076/impl.areSlots: function 103 -/
def impl_areSlots.l6 : Nat → Int → (List S86) → Int → Int → S50 → Option (Bool)
  | 0, _, _, _, _, _ => none
  | k + 1, x3, x7, x8, x9, y0 => if x9 < x8 then (if 0 ≤ x9 then (if x9 < (x7.length : Int) then ((impl_within.f ((rd_T86 x7 x9).f0) 0 (wrap64 ((y0.f7.length : Int) - 1))).bind fun t1 => (if t1 = true then ((impl_isSlotAt.f y0 (rd_T86 x7 x9) x3).bind fun t2 => (if t2 = true then (impl_areSlots.l6 k (wrap64 (((rd_T86 x7 x9).f1) + ((rd_T86 x7 x9).f2))) x7 x8 (wrap64 (x9 + 1)) y0) else (some false))) else (some false))) else none) else none) else ((impl_within.f (y0.f10.length : Int) 1 16).bind fun t3 => (some t3))
def impl_areSlots.f (k : Nat) (a0 : S50) : Option (Bool) := impl_areSlots.l6 k 0 a0.f10 (a0.f10.length : Int) 0 a0
def impl_areSlots.c : FnD := { f := 103, sh := false, ps := [.agg T50], pb := [], vc := .c (.bool), bs := [], R := Bool, fn := fun k x y => impl_areSlots.f k x.1, out := fun y => (y, ()), inn := fun d => d.1, inv := fun _ => rfl }
theorem impl_areSlots.ok : impl_areSlots.c.OK Try.prog :=
  FnD.of impl_areSlots.c mix tok (fn := Try.f103) Try.func103 (by kernel_rfl) (fun _ _ => by kernel_rfl) (by kernel_rfl) (by kernel_rfl) [impl_within.c, impl_isSlotAt.c] ⟨impl_within.ok, ⟨impl_isSlotAt.ok, trivial⟩⟩
    [{ lbl := 6, live := [(1, none), (3, none), (7, none), (8, none), (9, none)], ms := [], vs := [.c (.ptr 0 0), .c (.int .i64), .c (.sl false T86), .c (.int .i64), .c (.int .i64)], bs := [.cells 50 [.int .i64, .int .i64, .int .i64, .int .i64, .int .i64, .int .i64, .int .i64, .int .i64, .int .i64, .int .i64, .int .i64, .int .i64, .int .i64, .int .i64, .int .i64, .sl false T75, .sl false (.int .i64), .sl false T117, .sl false T86]], f := fun k x y => impl_areSlots.l6 k x.2.1 x.2.2.1 x.2.2.2.1 x.2.2.2.2.1 (y.1.1, (y.1.2.1, y.1.2.2.1, y.1.2.2.2.1), y.1.2.2.2.2.1, (y.1.2.2.2.2.2.1, y.1.2.2.2.2.2.2.1, y.1.2.2.2.2.2.2.2.1, y.1.2.2.2.2.2.2.2.2.1, y.1.2.2.2.2.2.2.2.2.2.1, y.1.2.2.2.2.2.2.2.2.2.2.1, y.1.2.2.2.2.2.2.2.2.2.2.2.1), y.1.2.2.2.2.2.2.2.2.2.2.2.2.1, y.1.2.2.2.2.2.2.2.2.2.2.2.2.2.1, y.1.2.2.2.2.2.2.2.2.2.2.2.2.2.2.1, y.1.2.2.2.2.2.2.2.2.2.2.2.2.2.2.2.1, y.1.2.2.2.2.2.2.2.2.2.2.2.2.2.2.2.2.1, y.1.2.2.2.2.2.2.2.2.2.2.2.2.2.2.2.2.2.1, y.1.2.2.2.2.2.2.2.2.2.2.2.2.2.2.2.2.2.2.1) }] { c := fun _ => none, cc := [], ms := [], tn := [], sh := false, fm := [] } rfl 5000 ⟨⟨fun _ _ => rfl, fun k x y => by kernel_rfl⟩, trivial⟩ (fun k x y => by kernel_rfl)

/-! ### loop.example/g00076/impl.isSound: function 55 -/
def impl_isSound.f (k : Nat) (a0 : S50) : Option (Bool) := (impl_isMem.f a0.f0).bind fun t1 => (if t1 = true then ((impl_isShape.f a0.f1).bind fun t2 => (if t2 = true then ((impl_within.f a0.f2 1 8).bind fun t3 => (if t3 = true then ((impl_areCosts.f k a0.f3).bind fun t4 => (if t4 = true then ((impl_isSpan.f a0.f4).bind fun t5 => (if t5 = true then ((impl_isSpan.f a0.f5).bind fun t6 => (if t6 = true then ((impl_isSpan.f a0.f6).bind fun t7 => (if t7 = true then ((impl_worstStep.f k a0.f3).bind fun t8 => (if a0.f5 < t8 then (some false) else ((impl_within.f (a0.f7.length : Int) 1 6).bind fun t9 => (if t9 = true then ((impl_areParts.f k a0).bind fun t10 => (if t10 = true then (if (a0.f8.length : Int) > 8 then (some false) else ((slices_ContainsFunc_97_98.f k a0.f8 (a0.f7.length : Int)).bind fun t11 => (if t11 = true then (some false) else (if (a0.f9.length : Int) > 8 then (some false) else ((slices_ContainsFunc_99_100.f k a0.f9 (a0.f7.length : Int)).bind fun t12 => (if t12 = true then (some false) else ((impl_worstPad.f k a0.f3 a0.f1 a0.f9).bind fun t13 => (if a0.f4 < t13 then (some false) else ((impl_areSlots.f k a0).bind fun t14 => (some t14)))))))))) else (some false))) else (some false))))) else (some false))) else (some false))) else (some false))) else (some false))) else (some false))) else (some false))) else (some false))
def impl_isSound.c : FnD := { f := 55, sh := false, ps := [.agg T50], pb := [], vc := .c (.bool), bs := [], R := Bool, fn := fun k x y => impl_isSound.f k x.1, out := fun y => (y, ()), inn := fun d => d.1, inv := fun _ => rfl }
theorem impl_isSound.ok : impl_isSound.c.OK Try.prog :=
  FnD.of impl_isSound.c mix tok (fn := Try.f55) Try.func55 (by kernel_rfl) (fun _ _ => by kernel_rfl) (by kernel_rfl) (by kernel_rfl) [impl_isMem.c, impl_isShape.c, impl_within.c, impl_areCosts.c, impl_isSpan.c, impl_worstStep.c, impl_areParts.c, slices_ContainsFunc_97_98.c, slices_ContainsFunc_99_100.c, impl_worstPad.c, impl_areSlots.c] ⟨impl_isMem.ok, ⟨impl_isShape.ok, ⟨impl_within.ok, ⟨impl_areCosts.ok, ⟨impl_isSpan.ok, ⟨impl_worstStep.ok, ⟨impl_areParts.ok, ⟨slices_ContainsFunc_97_98.ok, ⟨slices_ContainsFunc_99_100.ok, ⟨impl_worstPad.ok, ⟨impl_areSlots.ok, trivial⟩⟩⟩⟩⟩⟩⟩⟩⟩⟩⟩
    [] { c := fun _ => none, cc := [], ms := [], tn := [], sh := false, fm := [] } rfl 5000 trivial (fun k x y => by kernel_rfl)

/-! ### loop.example/g00076/impl.BytesOf: function 75 -/
def impl_BytesOf.f (a0 : Int) : Option ((List Int)) := some ([(IntKind.wrap .u8 (a0)), (IntKind.wrap .u8 ((shr .u32 a0 8))), (IntKind.wrap .u8 ((shr .u32 a0 16))), (IntKind.wrap .u8 ((shr .u32 a0 24)))] : List Int)
def impl_BytesOf.c : FnD := { f := 75, sh := false, ps := [.c (.int .u32)], pb := [], vc := .c (.own 0), bs := [.arr (.int .u8) .un], R := (List Int), fn := fun _ x y => impl_BytesOf.f x.1, out := fun y => ((), (y, ())), inn := fun d => d.2.1, inv := fun _ => rfl }
theorem impl_BytesOf.ok : impl_BytesOf.c.OK Try.prog :=
  FnD.of impl_BytesOf.c mix tok (fn := Try.f75) Try.func75 (by kernel_rfl) (fun _ _ => by kernel_rfl) (by kernel_rfl) (by kernel_rfl) [] trivial
    [] { c := fun _ => none, cc := [], ms := [], tn := [], sh := false, fm := [] } rfl 5000 trivial (fun k x y => by kernel_rfl)

/-! ### loop.example/g00076/impl.loadImage: function 57 -/
mutual
def impl_loadImage.l16 : Nat → (List Int) → Int → Int → (List S40) → Int → Int → (List (List Int)) → Option ((List (List Int)) × Bool)
  | 0, _, _, _, _, _, _, _ => none
  | k + 1, x2, x9, x10, x48, x49, x50, h0 => if x50 < x49 then (if 0 ≤ x50 then (if x50 < (x48.length : Int) then (if 0 ≤ (rd_T40 x48 x50).f1 then (if (rd_T40 x48 x50).f1 ≤ (rd_T40 x48 x50).f1 then (if ((rd_T40 x48 x50).f1).toNat ≤ 281474976710656 then (if h0.length + ([(List.replicate ((rd_T40 x48 x50).f1).toNat 0)] : List (List Int)).length < 5864062014805 then (impl_loadImage.l16 k x2 x9 x10 x48 x49 (wrap64 (x50 + 1)) (h0 ++ ([(List.replicate ((rd_T40 x48 x50).f1).toNat 0)] : List (List Int)))) else none) else none) else none) else none) else none) else none) else (impl_loadImage.l26 k x9 x10 x2 (lenZ x2) 0 h0)
def impl_loadImage.l26 : Nat → Int → Int → (List Int) → Int → Int → (List (List Int)) → Option ((List (List Int)) × Bool)
  | 0, _, _, _, _, _, _ => none
  | k + 1, x9, x10, x61, x62, x63, h0 => if x63 < x62 then (if 0 ≤ x63 then (if x63 < (x61.length : Int) then (if 0 ≤ x9 then (if x9 < (h0.length : Int) then (if 0 ≤ (wrap64 (x10 + (wrap64 (4 * x63)))) then (if (wrap64 (x10 + (wrap64 (4 * x63)))) < ((rd_ListInt h0 x9).length : Int) then ((impl_BytesOf.f (rd x61 x63)).bind fun t2 => (if 0 < t2.length then (let q3 : List (List Int) := h0.set x9.toNat ((rd_ListInt h0 x9).take (wrap64 (x10 + (wrap64 (4 * x63)))).toNat ++ t2.take ((rd_ListInt h0 x9).length - (wrap64 (x10 + (wrap64 (4 * x63)))).toNat) ++ (rd_ListInt h0 x9).drop ((wrap64 (x10 + (wrap64 (4 * x63)))).toNat + (t2.take ((rd_ListInt h0 x9).length - (wrap64 (x10 + (wrap64 (4 * x63)))).toNat)).length)); impl_loadImage.l26 k x9 x10 x61 x62 (wrap64 (x63 + 1)) q3) else none)) else none) else none) else none) else none) else none) else none) else (some (h0, true))
end
def impl_loadImage.f (k : Nat) (a0 : S50) (a1 : Int) (a2 : List Int) : Option ((List (List Int)) × Bool) := if 0 ≤ a1 then (if a1 < (a0.f7.length : Int) then ((impl_windowAt.f k ((rd_T75 a0.f7 a1).f3) ((rd_T75 a0.f7 a1).f1)).bind fun t1 => (if 0 ≤ t1 then (if t1 < (((rd_T75 a0.f7 a1).f3).length : Int) then (if 0 ≤ t1 then (if t1 < (((rd_T75 a0.f7 a1).f3).length : Int) then (if (wrap64 ((wrap64 (((rd_T75 a0.f7 a1).f1) - ((rd_T40 ((rd_T75 a0.f7 a1).f3) t1).f0))) + (wrap64 (4 * (lenZ a2))))) > (rd_T40 ((rd_T75 a0.f7 a1).f3) t1).f1 then (some (([] : List (List Int)), false)) else (impl_loadImage.l16 k a2 t1 (wrap64 (((rd_T75 a0.f7 a1).f1) - ((rd_T40 ((rd_T75 a0.f7 a1).f3) t1).f0))) ((rd_T75 a0.f7 a1).f3) (((rd_T75 a0.f7 a1).f3).length : Int) 0 ([] : List (List Int)))) else none) else none) else none) else none)) else none) else none
def impl_loadImage.c : FnD := { f := 57, sh := false, ps := [.agg T50, .c (.int .i64), .c (.sl (.int .u32))], pb := [], vc := .tup [(false, [.own 0]), (false, [.bool])], bs := [.arr (.sl (.int .u8)) .un], R := (List (List Int)) × Bool, fn := fun k x y => impl_loadImage.f k x.1 x.2.1 x.2.2.1, out := fun y => ((((), ()), (y.2, ()), ()), (y.1, ())), inn := fun d => (d.2.1, d.1.2.1.1), inv := fun _ => rfl }
theorem impl_loadImage.ok : impl_loadImage.c.OK Try.prog :=
  FnD.of impl_loadImage.c mix tok (fn := Try.f57) Try.func57 (by kernel_rfl) (fun _ _ => by kernel_rfl) (by kernel_rfl) (by kernel_rfl) [impl_windowAt.c, impl_BytesOf.c] ⟨impl_windowAt.ok, ⟨impl_BytesOf.ok, trivial⟩⟩
    [{ lbl := 16, live := [(2, none), (9, none), (10, none), (11, some (.row (.sl (.int .u8)))), (48, none), (49, none), (50, none)], ms := [], vs := [.c (.sl false (.int .u32)), .c (.int .i64), .c (.int .i64), .c (.own 0), .c (.sl false T40), .c (.int .i64), .c (.int .i64)], bs := [.arr (.sl (.int .u8)) .un], f := fun k x y => impl_loadImage.l16 k x.1 x.2.1 x.2.2.1 x.2.2.2.2.1 x.2.2.2.2.2.1 x.2.2.2.2.2.2.1 y.1 },
      { lbl := 26, live := [(9, none), (10, none), (11, none), (61, none), (62, none), (63, none)], ms := [], vs := [.c (.int .i64), .c (.int .i64), .c (.own 0), .c (.sl false (.int .u32)), .c (.int .i64), .c (.int .i64)], bs := [.arr (.sl (.int .u8)) .un], f := fun k x y => impl_loadImage.l26 k x.1 x.2.1 x.2.2.2.1 x.2.2.2.2.1 x.2.2.2.2.2.1 y.1 }] { c := fun n => bif Nat.beq n 0 then some (.row (.sl (.int .u8))) else  none, cc := [], ms := [], tn := [], sh := false, fm := [] } rfl 5000 ⟨⟨fun _ _ => rfl, fun k x y => by kernel_rfl⟩, ⟨⟨fun _ _ => rfl, fun k x y => by kernel_rfl⟩, trivial⟩⟩ (fun k x y => by kernel_rfl)

/-! ### loop.example/g00076/impl.LoadImage: function 17 -/
def impl_LoadImage.f (k : Nat) (a0 : S50) (a1 : Int) (a2 : List Int) : Option ((List (List Int)) × Bool) := (impl_isSound.f k a0).bind fun t1 => (if t1 = true then ((impl_within.f a1 0 (wrap64 ((a0.f7.length : Int) - 1))).bind fun t2 => (if t2 = true then (if (lenZ a2) > 256 then (some (([] : List (List Int)), false)) else ((impl_loadImage.f k a0 a1 a2).bind fun t3 => (some (t3.1, t3.2)))) else (some (([] : List (List Int)), false)))) else (some (([] : List (List Int)), false)))
def impl_LoadImage.c : FnD := { f := 17, sh := false, ps := [.agg T50, .c (.int .i64), .c (.sl (.int .u32))], pb := [], vc := .tup [(false, [.own 0]), (false, [.bool])], bs := [.arr (.sl (.int .u8)) .un], R := (List (List Int)) × Bool, fn := fun k x y => impl_LoadImage.f k x.1 x.2.1 x.2.2.1, out := fun y => ((((), ()), (y.2, ()), ()), (y.1, ())), inn := fun d => (d.2.1, d.1.2.1.1), inv := fun _ => rfl }
theorem impl_LoadImage.ok : impl_LoadImage.c.OK Try.prog :=
  FnD.of impl_LoadImage.c mix tok (fn := Try.f17) Try.func17 (by kernel_rfl) (fun _ _ => by kernel_rfl) (by kernel_rfl) (by kernel_rfl) [impl_isSound.c, impl_within.c, impl_loadImage.c] ⟨impl_isSound.ok, ⟨impl_within.ok, ⟨impl_loadImage.ok, trivial⟩⟩⟩
    [] { c := fun n => bif Nat.beq n 0 then some (.row (.sl (.int .u8))) else  none, cc := [], ms := [], tn := [], sh := false, fm := [] } rfl 5000 trivial (fun k x y => by kernel_rfl)

/-! ### loop.example/g00076/laws.sameBytes: function 13 -/
def laws_sameBytes.l8 : Nat → (List (List Int)) → (List (List Int)) → Int → Option (Bool)
  | 0, _, _, _ => none
  | k + 1, x0, x1, x5 => if x5 < (x0.length : Int) then (if 0 ≤ x5 then (if x5 < (x0.length : Int) then (if 0 ≤ x5 then (if x5 < (x1.length : Int) then (if (strOf (rd_ListInt x0 x5)) = (strOf (rd_ListInt x1 x5)) then (laws_sameBytes.l8 k x0 x1 (wrap64 (x5 + 1))) else (some false)) else none) else none) else none) else none) else (some true)
def laws_sameBytes.f (k : Nat) (a0 : List (List Int)) (a1 : List (List Int)) : Option (Bool) := if (a0.length : Int) = (a1.length : Int) then (laws_sameBytes.l8 k a0 a1 0) else (some false)
def laws_sameBytes.c : FnD := { f := 13, sh := false, ps := [.c (.sl (.sl (.int .u8))), .c (.sl (.sl (.int .u8)))], pb := [], vc := .c (.bool), bs := [], R := Bool, fn := fun k x y => laws_sameBytes.f k x.1 x.2.1, out := fun y => (y, ()), inn := fun d => d.1, inv := fun _ => rfl }
theorem laws_sameBytes.ok : laws_sameBytes.c.OK Try.prog :=
  FnD.of laws_sameBytes.c mix tok (fn := Try.f13) Try.func13 (by kernel_rfl) (fun _ _ => by kernel_rfl) (by kernel_rfl) (by kernel_rfl) [] trivial
    [{ lbl := 8, live := [(0, none), (1, none), (5, none)], ms := [], vs := [.c (.sl false (.sl (.int .u8))), .c (.sl false (.sl (.int .u8))), .c (.int .i64)], bs := [], f := fun k x y => laws_sameBytes.l8 k x.1 x.2.1 x.2.2.1 }] { c := fun _ => none, cc := [], ms := [], tn := [], sh := false, fm := [] } rfl 5000 ⟨⟨fun _ _ => rfl, fun k x y => by kernel_rfl⟩, trivial⟩ (fun k x y => by kernel_rfl)

/-! ### loop.example/g00076/impl.isImage: function 58 -/
def impl_isImage.l8 : Nat → (List (List Int)) → (List S40) → Int → Int → Option (Bool)
  | 0, _, _, _, _ => none
  | k + 1, x2, x33, x34, x35 => if x35 < x34 then (if 0 ≤ x35 then (if x35 < (x33.length : Int) then (if 0 ≤ x35 then (if x35 < (x2.length : Int) then (if ((rd_ListInt x2 x35).length : Int) = (rd_T40 x33 x35).f1 then (impl_isImage.l8 k x2 x33 x34 (wrap64 (x35 + 1))) else (some false)) else none) else none) else none) else none) else (some true)
def impl_isImage.f (k : Nat) (a0 : S50) (a1 : Int) (a2 : List (List Int)) : Option (Bool) := (impl_within.f a1 0 (wrap64 ((a0.f7.length : Int) - 1))).bind fun t1 => (if t1 = true then (if 0 ≤ a1 then (if a1 < (a0.f7.length : Int) then (if (a2.length : Int) = (((rd_T75 a0.f7 a1).f3).length : Int) then (if 0 ≤ a1 then (if a1 < (a0.f7.length : Int) then (impl_isImage.l8 k a2 ((rd_T75 a0.f7 a1).f3) (((rd_T75 a0.f7 a1).f3).length : Int) 0) else none) else none) else (some false)) else none) else none) else (some false))
def impl_isImage.c : FnD := { f := 58, sh := false, ps := [.agg T50, .c (.int .i64), .c (.sl (.sl (.int .u8)))], pb := [], vc := .c (.bool), bs := [], R := Bool, fn := fun k x y => impl_isImage.f k x.1 x.2.1 x.2.2.1, out := fun y => (y, ()), inn := fun d => d.1, inv := fun _ => rfl }
theorem impl_isImage.ok : impl_isImage.c.OK Try.prog :=
  FnD.of impl_isImage.c mix tok (fn := Try.f58) Try.func58 (by kernel_rfl) (fun _ _ => by kernel_rfl) (by kernel_rfl) (by kernel_rfl) [impl_within.c] ⟨impl_within.ok, trivial⟩
    [{ lbl := 8, live := [(2, none), (33, none), (34, none), (35, none)], ms := [], vs := [.c (.sl false (.sl (.int .u8))), .c (.sl false T40), .c (.int .i64), .c (.int .i64)], bs := [], f := fun k x y => impl_isImage.l8 k x.1 x.2.1 x.2.2.1 x.2.2.2.1 }] { c := fun _ => none, cc := [], ms := [], tn := [], sh := false, fm := [] } rfl 5000 ⟨⟨fun _ _ => rfl, fun k x y => by kernel_rfl⟩, trivial⟩ (fun k x y => by kernel_rfl)

/-! ### loop.example/g00076/impl.newGuest: function 140 -/
def impl_newGuest.l6 : Nat → (List S40) → Int → Int → S29 → S29 → Option (S29)
  | 0, _, _, _, _, _ => none
  | k + 1, x12, x13, x14, y0, y1 => if x14 < x13 then (if 0 ≤ x14 then (if x14 < (x12.length : Int) then (if 0 ≤ (rd_T40 x12 x14).f1 then (if (rd_T40 x12 x14).f1 ≤ (rd_T40 x12 x14).f1 then (if ((rd_T40 x12 x14).f1).toNat ≤ 281474976710656 then (if y1.f2.length + ([(List.replicate ((rd_T40 x12 x14).f1).toNat 0)] : List (List Int)).length < 5864062014805 then (impl_newGuest.l6 k x12 x13 (wrap64 (x14 + 1)) (⟨([] : List Int), y0.f1, ([] : List (List Int))⟩ : S29) (⟨y1.f0, y1.f1, (y1.f2 ++ ([(List.replicate ((rd_T40 x12 x14).f1).toNat 0)] : List (List Int)))⟩ : S29)) else none) else none) else none) else none) else none) else none) else (some y1)
def impl_newGuest.f (k : Nat) (a0 : List S40) (a1 : Int) : Option (S29) := impl_newGuest.l6 k a0 (a0.length : Int) 0 (⟨([] : List Int), 0, ([] : List (List Int))⟩ : S29) (⟨(List.replicate (16 : Int).toNat 0), (IntKind.wrap .u32 (a1)), ([] : List (List Int))⟩ : S29)
def impl_newGuest.c : FnD := { f := 140, sh := false, ps := [.c (.sl T40), .c (.int .i64)], pb := [], vc := .agg [.own 0, .int .u32, .own 1], bs := [.arr (.int .u32) .un, .arr (.sl (.int .u8)) .un], R := S29, fn := fun k x y => impl_newGuest.f k x.1 x.2.1, out := fun y => (((), y.2.1, (), ()), (y.1, y.2.2, ())), inn := fun d => (d.2.1, d.1.2.1, d.2.2.1), inv := fun _ => rfl }
theorem impl_newGuest.ok : impl_newGuest.c.OK Try.prog :=
  FnD.of impl_newGuest.c mix tok (fn := Try.f140) Try.func140 (by kernel_rfl) (fun _ _ => by kernel_rfl) (by kernel_rfl) (by kernel_rfl) [] trivial
    [{ lbl := 6, live := [(4, none), (5, none), (12, none), (13, none), (14, none)], ms := [], cc := [(1, 2, .row (.sl (.int .u8)))], vs := [.c (.ptr 0 0), .c (.ptr 1 0), .c (.sl false T40), .c (.int .i64), .c (.int .i64)], bs := [.cells 29 [.nil, .int .u32, .nil], .cells 29 [.own 2, .int .u32, .own 3], .arr (.int .u32) .un, .arr (.sl (.int .u8)) .un], f := fun k x y => impl_newGuest.l6 k x.2.2.1 x.2.2.2.1 x.2.2.2.2.1 ([], y.1.2.1, []) (y.2.2.1, y.2.1.2.1, y.2.2.2.1) }] { c := fun _ => none, cc := [], ms := [], tn := [], sh := false, fm := [] } rfl 5000 ⟨⟨fun _ _ => rfl, fun k x y => by kernel_rfl⟩, trivial⟩ (fun k x y => by kernel_rfl)

/-! ### slices.Clone[[]byte,byte]: function 73 -/
def slices_Clone_73.f (a0 : List Int) : Option ((List Int)) := if a0.length = 0 then (sameO (some ([] : List Int)) (if ([] : List Int).length + a0.length < 140737488355328 then (some (([] : List Int) ++ a0)) else none)) else (if ([] : List Int).length + a0.length < 140737488355328 then (some (([] : List Int) ++ a0)) else none)
def slices_Clone_73.c : FnD := { f := 73, sh := false, ps := [.c (.sl (.int .u8))], pb := [], vc := .c (.own 0), bs := [.arr (.int .u8) .un], R := (List Int), fn := fun _ x y => slices_Clone_73.f x.1, out := fun y => ((), (y, ())), inn := fun d => d.2.1, inv := fun _ => rfl }
theorem slices_Clone_73.ok : slices_Clone_73.c.OK Try.prog :=
  FnD.of slices_Clone_73.c mix tok (fn := Try.f73) Try.func73 (by kernel_rfl) (fun _ _ => by kernel_rfl) (by kernel_rfl) (by kernel_rfl) [] trivial
    [] { c := fun n => bif Nat.beq n 0 then some (.row (.int .u8)) else  none, cc := [], ms := [], tn := [], sh := false, fm := [] } rfl 5000 trivial (fun k x y => by kernel_rfl)

/-! ### loop.example/g00076/impl.cloneBytes: function 106 -/
def impl_cloneBytes.l6 : Nat → (List (List Int)) → Int → Int → (List (List Int)) → Option ((List (List Int)))
  | 0, _, _, _, _ => none
  | k + 1, x6, x7, x8, h0 => if x8 < x7 then (if 0 ≤ x8 then (if x8 < (x6.length : Int) then ((slices_Clone_73.f (rd_ListInt x6 x8)).bind fun t1 => (if h0.length + ([t1] : List (List Int)).length < 5864062014805 then (impl_cloneBytes.l6 k x6 x7 (wrap64 (x8 + 1)) (h0 ++ ([t1] : List (List Int)))) else none)) else none) else none) else (some h0)
def impl_cloneBytes.f (k : Nat) (a0 : List (List Int)) : Option ((List (List Int))) := impl_cloneBytes.l6 k a0 (a0.length : Int) 0 ([] : List (List Int))
def impl_cloneBytes.c : FnD := { f := 106, sh := false, ps := [.c (.sl (.sl (.int .u8)))], pb := [], vc := .c (.own 0), bs := [.arr (.sl (.int .u8)) .un], R := (List (List Int)), fn := fun k x y => impl_cloneBytes.f k x.1, out := fun y => ((), (y, ())), inn := fun d => d.2.1, inv := fun _ => rfl }
theorem impl_cloneBytes.ok : impl_cloneBytes.c.OK Try.prog :=
  FnD.of impl_cloneBytes.c mix tok (fn := Try.f106) Try.func106 (by kernel_rfl) (fun _ _ => by kernel_rfl) (by kernel_rfl) (by kernel_rfl) [slices_Clone_73.c] ⟨slices_Clone_73.ok, trivial⟩
    [{ lbl := 6, live := [(3, some (.row (.sl (.int .u8)))), (6, none), (7, none), (8, none)], ms := [], vs := [.c (.own 0), .c (.sl false (.sl (.int .u8))), .c (.int .i64), .c (.int .i64)], bs := [.arr (.sl (.int .u8)) .un], f := fun k x y => impl_cloneBytes.l6 k x.2.1 x.2.2.1 x.2.2.2.1 y.1 }] { c := fun _ => none, cc := [], ms := [], tn := [], sh := false, fm := [] } rfl 5000 ⟨⟨fun _ _ => rfl, fun k x y => by kernel_rfl⟩, trivial⟩ (fun k x y => by kernel_rfl)

/-! ### loop.example/g00076/impl.bootGuest: function 104 -/
def impl_bootGuest.f (k : Nat) (a0 : S50) (a1 : Int) (a2 : List (List Int)) : Option (S29) := if 0 ≤ a1 then (if a1 < (a0.f7.length : Int) then ((impl_newGuest.f k ([] : List S40) ((rd_T75 a0.f7 a1).f1)).bind fun t1 => ((impl_cloneBytes.f k a2).bind fun t2 => (some (⟨t1.f0, t1.f1, t2⟩ : S29)))) else none) else none
def impl_bootGuest.c : FnD := { f := 104, sh := false, ps := [.agg T50, .c (.int .i64), .c (.sl (.sl (.int .u8)))], pb := [], vc := .agg [.own 0, .int .u32, .own 1], bs := [.arr (.int .u32) .un, .arr (.sl (.int .u8)) .un], R := S29, fn := fun k x y => impl_bootGuest.f k x.1 x.2.1 x.2.2.1, out := fun y => (((), y.2.1, (), ()), (y.1, y.2.2, ())), inn := fun d => (d.2.1, d.1.2.1, d.2.2.1), inv := fun _ => rfl }
theorem impl_bootGuest.ok : impl_bootGuest.c.OK Try.prog :=
  FnD.of impl_bootGuest.c mix tok (fn := Try.f104) Try.func104 (by kernel_rfl) (fun _ _ => by kernel_rfl) (by kernel_rfl) (by kernel_rfl) [impl_newGuest.c, impl_cloneBytes.c] ⟨impl_newGuest.ok, ⟨impl_cloneBytes.ok, trivial⟩⟩
    [] { c := fun _ => none, cc := [], ms := [], tn := [], sh := false, fm := [] } rfl 5000 trivial (fun k x y => by kernel_rfl)

/-! ### loop.example/g00076/impl.newCache: function 105 -/
def impl_newCache.f (a0 : S42) : Option (S61) := if 0 ≤ a0.f0 then (if a0.f0 ≤ a0.f0 then (if a0.f0.toNat ≤ 11728124029610 then (some (⟨a0, (List.replicate a0.f0.toNat ([] : List S212))⟩ : S61)) else none) else none) else none
def impl_newCache.c : FnD := { f := 105, sh := false, ps := [.agg T42], pb := [], vc := .agg [.int .i64, .int .i64, .int .i64, .own 0], bs := [.arr (.sl T212) .un], R := S61, fn := fun _ x y => impl_newCache.f x.1, out := fun y => ((y.1.1, y.1.2.1, y.1.2.2, (), ()), (y.2, ())), inn := fun d => ((d.1.1, d.1.2.1, d.1.2.2.1), d.2.1), inv := fun _ => rfl }
theorem impl_newCache.ok : impl_newCache.c.OK Try.prog :=
  FnD.of impl_newCache.c mix tok (fn := Try.f105) Try.func105 (by kernel_rfl) (fun _ _ => by kernel_rfl) (by kernel_rfl) (by kernel_rfl) [] trivial
    [] { c := fun _ => none, cc := [], ms := [], tn := [], sh := false, fm := [] } rfl 5000 trivial (fun k x y => by kernel_rfl)

end
end Go.Proofs.Ytgnhojiogkeepaa.PLo
