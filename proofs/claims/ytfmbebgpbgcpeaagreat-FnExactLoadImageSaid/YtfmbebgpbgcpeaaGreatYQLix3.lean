/- Go functions as Lean functions, each with its contract. -/
import Derived.Test.YtfmbebgpbgcpeaaGreatYQLix2
set_option linter.unusedVariables false
set_option maxRecDepth 100000
namespace Go.Proofs.YtfmbebgpbgcpeaaGreat.PLi
open Go Go.Proofs Go.RowKit Go.Proofs.YtfmbebgpbgcpeaaGreat.V
noncomputable section
/-! ### loop.example/g00076/impl.worstPad: function 89 -/
def impl_worstPad.l6 : Nat → Int → (List S111) → Int → Int → S38 → Option (Int)
  | 0, _, _, _, _, _ => none
  | k + 1, x7, x22, x23, x24, y0 => if x24 < x23 then (if 0 ≤ x24 then (if x24 < (x22.length : Int) then ((impl_depthOf.f (rd_T111 x22 x24)).bind fun t1 => (impl_worstPad.l6 k (wrap64 (x7 + (wrap64 (y0.f0 * t1)))) x22 x23 (wrap64 (x24 + 1)) y0)) else none) else none) else (some x7)
def impl_worstPad.f (k : Nat) (a0 : S38) (a1 : S37) (a2 : List S111) : Option (Int) := impl_worstPad.l6 k (wrap64 ((wrap64 (16 * a0.f0)) + (wrap64 ((wrap64 (a1.f0 * a1.f1)) * a0.f6)))) a2 (a2.length : Int) 0 a0
def impl_worstPad.c : FnD := { f := 89, sh := false, ps := [.agg T38, .agg T37, .c (.sl T111)], pb := [], vc := .c (.int .i64), bs := [], R := Int, fn := fun k x y => impl_worstPad.f k x.1 x.2.1 x.2.2.1, out := fun y => (y, ()), inn := fun d => d.1, inv := fun _ => rfl }
theorem impl_worstPad.ok : impl_worstPad.c.OK Tryz.prog :=
  FnD.of impl_worstPad.c mix tok (fn := Tryz.f89) Tryz.func89 (by kernel_rfl) (fun _ _ => by kernel_rfl) (by kernel_rfl) (by kernel_rfl) [impl_depthOf.c] ⟨impl_depthOf.ok, trivial⟩
    [{ lbl := 6, live := [(3, none), (7, none), (22, none), (23, none), (24, none)], ms := [], vs := [.c (.ptr 0 0), .c (.int .i64), .c (.sl false T111), .c (.int .i64), .c (.int .i64)], bs := [.cells 38 [.int .i64, .int .i64, .int .i64, .int .i64, .int .i64, .int .i64, .int .i64]], f := fun k x y => impl_worstPad.l6 k x.2.1 x.2.2.1 x.2.2.2.1 x.2.2.2.2.1 (y.1.1, y.1.2.1, y.1.2.2.1, y.1.2.2.2.1, y.1.2.2.2.2.1, y.1.2.2.2.2.2.1, y.1.2.2.2.2.2.2.1) }] { c := fun _ => none, cc := [], ms := [], tn := [], sh := false, fm := [] } rfl 5000 ⟨⟨fun _ _ => rfl, fun k x y => by kernel_rfl⟩, trivial⟩ (fun k x y => by kernel_rfl)

/-! ### loop.example/g00076/impl.isSlotAt: function 130 -/
def impl_isSlotAt.f (a0 : S43) (a1 : S95) (a2 : Int) : Option (Bool) := if a1.f2 > (wrap64 (a0.f4 + a0.f5)) then (if a1.f2 ≤ a0.f6 then (if a1.f1 ≥ a2 then (some (decide (a1.f1 ≤ (wrap64 (a0.f6 - a1.f2))))) else (some false)) else (some false)) else (some false)
def impl_isSlotAt.c : FnD := { f := 130, sh := false, ps := [.agg T43, .agg T95, .c (.int .i64)], pb := [], vc := .c (.bool), bs := [], R := Bool, fn := fun _ x y => impl_isSlotAt.f x.1 x.2.1 x.2.2.1, out := fun y => (y, ()), inn := fun d => d.1, inv := fun _ => rfl }
theorem impl_isSlotAt.ok : impl_isSlotAt.c.OK Tryz.prog :=
  FnD.of impl_isSlotAt.c mix tok (fn := Tryz.f130) Tryz.func130 (by kernel_rfl) (fun _ _ => by kernel_rfl) (by kernel_rfl) (by kernel_rfl) [] trivial
    [] { c := fun _ => none, cc := [], ms := [], tn := [], sh := false, fm := [] } rfl 5000 trivial (fun k x y => by kernel_rfl)

/-! ### loop.example/g00076/impl.areSlots: function 90 -/
def impl_areSlots.l6 : Nat → Int → (List S95) → Int → Int → S43 → Option (Bool)
  | 0, _, _, _, _, _ => none
  | k + 1, x3, x7, x8, x9, y0 => if x9 < x8 then (if 0 ≤ x9 then (if x9 < (x7.length : Int) then ((impl_within.f ((rd_T95 x7 x9).f0) 0 (wrap64 ((y0.f7.length : Int) - 1))).bind fun t1 => (if t1 = true then ((impl_isSlotAt.f y0 (rd_T95 x7 x9) x3).bind fun t2 => (if t2 = true then (impl_areSlots.l6 k (wrap64 (((rd_T95 x7 x9).f1) + ((rd_T95 x7 x9).f2))) x7 x8 (wrap64 (x9 + 1)) y0) else (some false))) else (some false))) else none) else none) else ((impl_within.f (y0.f10.length : Int) 1 16).bind fun t3 => (some t3))
def impl_areSlots.f (k : Nat) (a0 : S43) : Option (Bool) := impl_areSlots.l6 k 0 a0.f10 (a0.f10.length : Int) 0 a0
def impl_areSlots.c : FnD := { f := 90, sh := false, ps := [.agg T43], pb := [], vc := .c (.bool), bs := [], R := Bool, fn := fun k x y => impl_areSlots.f k x.1, out := fun y => (y, ()), inn := fun d => d.1, inv := fun _ => rfl }
theorem impl_areSlots.ok : impl_areSlots.c.OK Tryz.prog :=
  FnD.of impl_areSlots.c mix tok (fn := Tryz.f90) Tryz.func90 (by kernel_rfl) (fun _ _ => by kernel_rfl) (by kernel_rfl) (by kernel_rfl) [impl_within.c, impl_isSlotAt.c] ⟨impl_within.ok, ⟨impl_isSlotAt.ok, trivial⟩⟩
    [{ lbl := 6, live := [(1, none), (3, none), (7, none), (8, none), (9, none)], ms := [], vs := [.c (.ptr 0 0), .c (.int .i64), .c (.sl false T95), .c (.int .i64), .c (.int .i64)], bs := [.cells 43 [.int .i64, .int .i64, .int .i64, .int .i64, .int .i64, .int .i64, .int .i64, .int .i64, .int .i64, .int .i64, .int .i64, .int .i64, .int .i64, .int .i64, .int .i64, .sl false T72, .sl false (.int .i64), .sl false T111, .sl false T95]], f := fun k x y => impl_areSlots.l6 k x.2.1 x.2.2.1 x.2.2.2.1 x.2.2.2.2.1 (y.1.1, (y.1.2.1, y.1.2.2.1, y.1.2.2.2.1), y.1.2.2.2.2.1, (y.1.2.2.2.2.2.1, y.1.2.2.2.2.2.2.1, y.1.2.2.2.2.2.2.2.1, y.1.2.2.2.2.2.2.2.2.1, y.1.2.2.2.2.2.2.2.2.2.1, y.1.2.2.2.2.2.2.2.2.2.2.1, y.1.2.2.2.2.2.2.2.2.2.2.2.1), y.1.2.2.2.2.2.2.2.2.2.2.2.2.1, y.1.2.2.2.2.2.2.2.2.2.2.2.2.2.1, y.1.2.2.2.2.2.2.2.2.2.2.2.2.2.2.1, y.1.2.2.2.2.2.2.2.2.2.2.2.2.2.2.2.1, y.1.2.2.2.2.2.2.2.2.2.2.2.2.2.2.2.2.1, y.1.2.2.2.2.2.2.2.2.2.2.2.2.2.2.2.2.2.1, y.1.2.2.2.2.2.2.2.2.2.2.2.2.2.2.2.2.2.2.1) }] { c := fun _ => none, cc := [], ms := [], tn := [], sh := false, fm := [] } rfl 5000 ⟨⟨fun _ _ => rfl, fun k x y => by kernel_rfl⟩, trivial⟩ (fun k x y => by kernel_rfl)

/-! ### loop.example/g00076/impl.isSound: function 45 -/
def impl_isSound.f (k : Nat) (a0 : S43) : Option (Bool) := (impl_isMem.f a0.f0).bind fun t1 => (if t1 = true then ((impl_isShape.f a0.f1).bind fun t2 => (if t2 = true then ((impl_within.f a0.f2 1 8).bind fun t3 => (if t3 = true then ((impl_areCosts.f k a0.f3).bind fun t4 => (if t4 = true then ((impl_isSpan.f a0.f4).bind fun t5 => (if t5 = true then ((impl_isSpan.f a0.f5).bind fun t6 => (if t6 = true then ((impl_isSpan.f a0.f6).bind fun t7 => (if t7 = true then ((impl_worstStep.f k a0.f3).bind fun t8 => (if a0.f5 < t8 then (some false) else ((impl_within.f (a0.f7.length : Int) 1 6).bind fun t9 => (if t9 = true then ((impl_areParts.f k a0).bind fun t10 => (if t10 = true then (if (a0.f8.length : Int) > 8 then (some false) else ((slices_ContainsFunc_60_85.f k a0.f8 (a0.f7.length : Int)).bind fun t11 => (if t11 = true then (some false) else (if (a0.f9.length : Int) > 8 then (some false) else ((slices_ContainsFunc_86_87.f k a0.f9 (a0.f7.length : Int)).bind fun t12 => (if t12 = true then (some false) else ((impl_worstPad.f k a0.f3 a0.f1 a0.f9).bind fun t13 => (if a0.f4 < t13 then (some false) else ((impl_areSlots.f k a0).bind fun t14 => (some t14)))))))))) else (some false))) else (some false))))) else (some false))) else (some false))) else (some false))) else (some false))) else (some false))) else (some false))) else (some false))
def impl_isSound.c : FnD := { f := 45, sh := false, ps := [.agg T43], pb := [], vc := .c (.bool), bs := [], R := Bool, fn := fun k x y => impl_isSound.f k x.1, out := fun y => (y, ()), inn := fun d => d.1, inv := fun _ => rfl }
theorem impl_isSound.ok : impl_isSound.c.OK Tryz.prog :=
  FnD.of impl_isSound.c mix tok (fn := Tryz.f45) Tryz.func45 (by kernel_rfl) (fun _ _ => by kernel_rfl) (by kernel_rfl) (by kernel_rfl) [impl_isMem.c, impl_isShape.c, impl_within.c, impl_areCosts.c, impl_isSpan.c, impl_worstStep.c, impl_areParts.c, slices_ContainsFunc_60_85.c, slices_ContainsFunc_86_87.c, impl_worstPad.c, impl_areSlots.c] ⟨impl_isMem.ok, ⟨impl_isShape.ok, ⟨impl_within.ok, ⟨impl_areCosts.ok, ⟨impl_isSpan.ok, ⟨impl_worstStep.ok, ⟨impl_areParts.ok, ⟨slices_ContainsFunc_60_85.ok, ⟨slices_ContainsFunc_86_87.ok, ⟨impl_worstPad.ok, ⟨impl_areSlots.ok, trivial⟩⟩⟩⟩⟩⟩⟩⟩⟩⟩⟩
    [] { c := fun _ => none, cc := [], ms := [], tn := [], sh := false, fm := [] } rfl 5000 trivial (fun k x y => by kernel_rfl)

/-! ### loop.example/g00076/impl.BytesOf: function 92 -/
def impl_BytesOf.f (a0 : Int) : Option ((List Int)) := some ([(IntKind.wrap .u8 (a0)), (IntKind.wrap .u8 ((shr .u32 a0 8))), (IntKind.wrap .u8 ((shr .u32 a0 16))), (IntKind.wrap .u8 ((shr .u32 a0 24)))] : List Int)
def impl_BytesOf.c : FnD := { f := 92, sh := false, ps := [.c (.int .u32)], pb := [], vc := .c (.own 0), bs := [.arr (.int .u8) .un], R := (List Int), fn := fun _ x y => impl_BytesOf.f x.1, out := fun y => ((), (y, ())), inn := fun d => d.2.1, inv := fun _ => rfl }
theorem impl_BytesOf.ok : impl_BytesOf.c.OK Tryz.prog :=
  FnD.of impl_BytesOf.c mix tok (fn := Tryz.f92) Tryz.func92 (by kernel_rfl) (fun _ _ => by kernel_rfl) (by kernel_rfl) (by kernel_rfl) [] trivial
    [] { c := fun _ => none, cc := [], ms := [], tn := [], sh := false, fm := [] } rfl 5000 trivial (fun k x y => by kernel_rfl)

/-! ### loop.example/g00076/impl.loadImage: function 47 -/
mutual
def impl_loadImage.l16 : Nat → (List Int) → Int → Int → (List S75) → Int → Int → (List (List Int)) → Option ((List (List Int)) × Bool)
  | 0, _, _, _, _, _, _, _ => none
  | k + 1, x2, x9, x10, x48, x49, x50, h0 => if x50 < x49 then (if 0 ≤ x50 then (if x50 < (x48.length : Int) then (if 0 ≤ (rd_T75 x48 x50).f1 then (if (rd_T75 x48 x50).f1 ≤ (rd_T75 x48 x50).f1 then (if ((rd_T75 x48 x50).f1).toNat ≤ 281474976710656 then (if h0.length + ([(List.replicate ((rd_T75 x48 x50).f1).toNat 0)] : List (List Int)).length < 5864062014805 then (impl_loadImage.l16 k x2 x9 x10 x48 x49 (wrap64 (x50 + 1)) (h0 ++ ([(List.replicate ((rd_T75 x48 x50).f1).toNat 0)] : List (List Int)))) else none) else none) else none) else none) else none) else none) else (impl_loadImage.l26 k x9 x10 x2 (lenZ x2) 0 h0)
def impl_loadImage.l26 : Nat → Int → Int → (List Int) → Int → Int → (List (List Int)) → Option ((List (List Int)) × Bool)
  | 0, _, _, _, _, _, _ => none
  | k + 1, x9, x10, x61, x62, x63, h0 => if x63 < x62 then (if 0 ≤ x63 then (if x63 < (x61.length : Int) then (if 0 ≤ x9 then (if x9 < (h0.length : Int) then (if 0 ≤ (wrap64 (x10 + (wrap64 (4 * x63)))) then (if (wrap64 (x10 + (wrap64 (4 * x63)))) < ((rd_ListInt h0 x9).length : Int) then ((impl_BytesOf.f (rd x61 x63)).bind fun t2 => (if 0 < t2.length then (let q3 : List (List Int) := h0.set x9.toNat ((rd_ListInt h0 x9).take (wrap64 (x10 + (wrap64 (4 * x63)))).toNat ++ t2.take ((rd_ListInt h0 x9).length - (wrap64 (x10 + (wrap64 (4 * x63)))).toNat) ++ (rd_ListInt h0 x9).drop ((wrap64 (x10 + (wrap64 (4 * x63)))).toNat + (t2.take ((rd_ListInt h0 x9).length - (wrap64 (x10 + (wrap64 (4 * x63)))).toNat)).length)); impl_loadImage.l26 k x9 x10 x61 x62 (wrap64 (x63 + 1)) q3) else none)) else none) else none) else none) else none) else none) else none) else (some (h0, true))
end
def impl_loadImage.f (k : Nat) (a0 : S43) (a1 : Int) (a2 : List Int) : Option ((List (List Int)) × Bool) := if 0 ≤ a1 then (if a1 < (a0.f7.length : Int) then ((impl_windowAt.f k ((rd_T72 a0.f7 a1).f3) ((rd_T72 a0.f7 a1).f1)).bind fun t1 => (if 0 ≤ t1 then (if t1 < (((rd_T72 a0.f7 a1).f3).length : Int) then (if 0 ≤ t1 then (if t1 < (((rd_T72 a0.f7 a1).f3).length : Int) then (if (wrap64 ((wrap64 (((rd_T72 a0.f7 a1).f1) - ((rd_T75 ((rd_T72 a0.f7 a1).f3) t1).f0))) + (wrap64 (4 * (lenZ a2))))) > (rd_T75 ((rd_T72 a0.f7 a1).f3) t1).f1 then (some (([] : List (List Int)), false)) else (impl_loadImage.l16 k a2 t1 (wrap64 (((rd_T72 a0.f7 a1).f1) - ((rd_T75 ((rd_T72 a0.f7 a1).f3) t1).f0))) ((rd_T72 a0.f7 a1).f3) (((rd_T72 a0.f7 a1).f3).length : Int) 0 ([] : List (List Int)))) else none) else none) else none) else none)) else none) else none
def impl_loadImage.c : FnD := { f := 47, sh := false, ps := [.agg T43, .c (.int .i64), .c (.sl (.int .u32))], pb := [], vc := .tup [(false, [.own 0]), (false, [.bool])], bs := [.arr (.sl (.int .u8)) .un], R := (List (List Int)) × Bool, fn := fun k x y => impl_loadImage.f k x.1 x.2.1 x.2.2.1, out := fun y => ((((), ()), (y.2, ()), ()), (y.1, ())), inn := fun d => (d.2.1, d.1.2.1.1), inv := fun _ => rfl }
theorem impl_loadImage.ok : impl_loadImage.c.OK Tryz.prog :=
  FnD.of impl_loadImage.c mix tok (fn := Tryz.f47) Tryz.func47 (by kernel_rfl) (fun _ _ => by kernel_rfl) (by kernel_rfl) (by kernel_rfl) [impl_windowAt.c, impl_BytesOf.c] ⟨impl_windowAt.ok, ⟨impl_BytesOf.ok, trivial⟩⟩
    [{ lbl := 16, live := [(2, none), (9, none), (10, none), (11, some (.row (.sl (.int .u8)))), (48, none), (49, none), (50, none)], ms := [], vs := [.c (.sl false (.int .u32)), .c (.int .i64), .c (.int .i64), .c (.own 0), .c (.sl false T75), .c (.int .i64), .c (.int .i64)], bs := [.arr (.sl (.int .u8)) .un], f := fun k x y => impl_loadImage.l16 k x.1 x.2.1 x.2.2.1 x.2.2.2.2.1 x.2.2.2.2.2.1 x.2.2.2.2.2.2.1 y.1 },
      { lbl := 26, live := [(9, none), (10, none), (11, none), (61, none), (62, none), (63, none)], ms := [], vs := [.c (.int .i64), .c (.int .i64), .c (.own 0), .c (.sl false (.int .u32)), .c (.int .i64), .c (.int .i64)], bs := [.arr (.sl (.int .u8)) .un], f := fun k x y => impl_loadImage.l26 k x.1 x.2.1 x.2.2.2.1 x.2.2.2.2.1 x.2.2.2.2.2.1 y.1 }] { c := fun n => bif Nat.beq n 0 then some (.row (.sl (.int .u8))) else  none, cc := [], ms := [], tn := [], sh := false, fm := [] } rfl 5000 ⟨⟨fun _ _ => rfl, fun k x y => by kernel_rfl⟩, ⟨⟨fun _ _ => rfl, fun k x y => by kernel_rfl⟩, trivial⟩⟩ (fun k x y => by kernel_rfl)

/-! ### loop.example/g00076/impl.LoadImage: function 12 -/
def impl_LoadImage.f (k : Nat) (a0 : S43) (a1 : Int) (a2 : List Int) : Option ((List (List Int)) × Bool) := (impl_isSound.f k a0).bind fun t1 => (if t1 = true then ((impl_within.f a1 0 (wrap64 ((a0.f7.length : Int) - 1))).bind fun t2 => (if t2 = true then (if (lenZ a2) > 256 then (some (([] : List (List Int)), false)) else ((impl_loadImage.f k a0 a1 a2).bind fun t3 => (some (t3.1, t3.2)))) else (some (([] : List (List Int)), false)))) else (some (([] : List (List Int)), false)))
def impl_LoadImage.c : FnD := { f := 12, sh := false, ps := [.agg T43, .c (.int .i64), .c (.sl (.int .u32))], pb := [], vc := .tup [(false, [.own 0]), (false, [.bool])], bs := [.arr (.sl (.int .u8)) .un], R := (List (List Int)) × Bool, fn := fun k x y => impl_LoadImage.f k x.1 x.2.1 x.2.2.1, out := fun y => ((((), ()), (y.2, ()), ()), (y.1, ())), inn := fun d => (d.2.1, d.1.2.1.1), inv := fun _ => rfl }
theorem impl_LoadImage.ok : impl_LoadImage.c.OK Tryz.prog :=
  FnD.of impl_LoadImage.c mix tok (fn := Tryz.f12) Tryz.func12 (by kernel_rfl) (fun _ _ => by kernel_rfl) (by kernel_rfl) (by kernel_rfl) [impl_isSound.c, impl_within.c, impl_loadImage.c] ⟨impl_isSound.ok, ⟨impl_within.ok, ⟨impl_loadImage.ok, trivial⟩⟩⟩
    [] { c := fun n => bif Nat.beq n 0 then some (.row (.sl (.int .u8))) else  none, cc := [], ms := [], tn := [], sh := false, fm := [] } rfl 5000 trivial (fun k x y => by kernel_rfl)

/-! ### loop.example/g00076/laws.eqByteS: function 48 -/
def laws_eqByteS.l8 : Nat → (List Int) → (List Int) → Int → Option (Bool)
  | 0, _, _, _ => none
  | k + 1, x0, x1, x5 => if x5 < (x0.length : Int) then (if 0 ≤ x5 then (if x5 < (x0.length : Int) then (if 0 ≤ x5 then (if x5 < (x1.length : Int) then (if (rd x0 x5) = (rd x1 x5) then (laws_eqByteS.l8 k x0 x1 (wrap64 (x5 + 1))) else (some false)) else none) else none) else none) else none) else (some true)
def laws_eqByteS.f (k : Nat) (a0 : List Int) (a1 : List Int) : Option (Bool) := if (a0.length : Int) = (a1.length : Int) then (laws_eqByteS.l8 k a0 a1 0) else (some false)
def laws_eqByteS.c : FnD := { f := 48, sh := false, ps := [.c (.sl (.int .u8)), .c (.sl (.int .u8))], pb := [], vc := .c (.bool), bs := [], R := Bool, fn := fun k x y => laws_eqByteS.f k x.1 x.2.1, out := fun y => (y, ()), inn := fun d => d.1, inv := fun _ => rfl }
theorem laws_eqByteS.ok : laws_eqByteS.c.OK Tryz.prog :=
  FnD.of laws_eqByteS.c mix tok (fn := Tryz.f48) Tryz.func48 (by kernel_rfl) (fun _ _ => by kernel_rfl) (by kernel_rfl) (by kernel_rfl) [] trivial
    [{ lbl := 8, live := [(0, none), (1, none), (5, none)], ms := [], vs := [.c (.sl false (.int .u8)), .c (.sl false (.int .u8)), .c (.int .i64)], bs := [], f := fun k x y => laws_eqByteS.l8 k x.1 x.2.1 x.2.2.1 }] { c := fun _ => none, cc := [], ms := [], tn := [], sh := false, fm := [] } rfl 5000 ⟨⟨fun _ _ => rfl, fun k x y => by kernel_rfl⟩, trivial⟩ (fun k x y => by kernel_rfl)

/-! ### loop.example/g00076/laws.eqByteSS: function 13 -/
def laws_eqByteSS.l8 : Nat → (List (List Int)) → (List (List Int)) → Int → Option (Bool)
  | 0, _, _, _ => none
  | k + 1, x0, x1, x5 => if x5 < (x0.length : Int) then (if 0 ≤ x5 then (if x5 < (x0.length : Int) then (if 0 ≤ x5 then (if x5 < (x1.length : Int) then ((laws_eqByteS.f k (rd_ListInt x0 x5) (rd_ListInt x1 x5)).bind fun t1 => (if t1 = true then (laws_eqByteSS.l8 k x0 x1 (wrap64 (x5 + 1))) else (some false))) else none) else none) else none) else none) else (some true)
def laws_eqByteSS.f (k : Nat) (a0 : List (List Int)) (a1 : List (List Int)) : Option (Bool) := if (a0.length : Int) = (a1.length : Int) then (laws_eqByteSS.l8 k a0 a1 0) else (some false)
def laws_eqByteSS.c : FnD := { f := 13, sh := false, ps := [.c (.sl (.sl (.int .u8))), .c (.sl (.sl (.int .u8)))], pb := [], vc := .c (.bool), bs := [], R := Bool, fn := fun k x y => laws_eqByteSS.f k x.1 x.2.1, out := fun y => (y, ()), inn := fun d => d.1, inv := fun _ => rfl }
theorem laws_eqByteSS.ok : laws_eqByteSS.c.OK Tryz.prog :=
  FnD.of laws_eqByteSS.c mix tok (fn := Tryz.f13) Tryz.func13 (by kernel_rfl) (fun _ _ => by kernel_rfl) (by kernel_rfl) (by kernel_rfl) [laws_eqByteS.c] ⟨laws_eqByteS.ok, trivial⟩
    [{ lbl := 8, live := [(0, none), (1, none), (5, none)], ms := [], vs := [.c (.sl false (.sl (.int .u8))), .c (.sl false (.sl (.int .u8))), .c (.int .i64)], bs := [], f := fun k x y => laws_eqByteSS.l8 k x.1 x.2.1 x.2.2.1 }] { c := fun _ => none, cc := [], ms := [], tn := [], sh := false, fm := [] } rfl 5000 ⟨⟨fun _ _ => rfl, fun k x y => by kernel_rfl⟩, trivial⟩ (fun k x y => by kernel_rfl)

/-! ### loop.example/g00076/laws.eqShape: function 49 -/
def laws_eqShape.f (a0 : S37) (a1 : S37) : Option (Bool) := if a0.f0 = a1.f0 then (if a0.f1 = a1.f1 then (if a0.f2 = a1.f2 then (some true) else (some false)) else (some false)) else (some false)
def laws_eqShape.c : FnD := { f := 49, sh := false, ps := [.agg T37, .agg T37], pb := [], vc := .c (.bool), bs := [], R := Bool, fn := fun _ x y => laws_eqShape.f x.1 x.2.1, out := fun y => (y, ()), inn := fun d => d.1, inv := fun _ => rfl }
theorem laws_eqShape.ok : laws_eqShape.c.OK Tryz.prog :=
  FnD.of laws_eqShape.c mix tok (fn := Tryz.f49) Tryz.func49 (by kernel_rfl) (fun _ _ => by kernel_rfl) (by kernel_rfl) (by kernel_rfl) [] trivial
    [] { c := fun _ => none, cc := [], ms := [], tn := [], sh := false, fm := [] } rfl 5000 trivial (fun k x y => by kernel_rfl)

/-! ### loop.example/g00076/laws.eqCosts: function 50 -/
def laws_eqCosts.f (a0 : S38) (a1 : S38) : Option (Bool) := if a0.f0 = a1.f0 then (if a0.f1 = a1.f1 then (if a0.f2 = a1.f2 then (if a0.f3 = a1.f3 then (if a0.f4 = a1.f4 then (if a0.f5 = a1.f5 then (if a0.f6 = a1.f6 then (some true) else (some false)) else (some false)) else (some false)) else (some false)) else (some false)) else (some false)) else (some false)
def laws_eqCosts.c : FnD := { f := 50, sh := false, ps := [.agg T38, .agg T38], pb := [], vc := .c (.bool), bs := [], R := Bool, fn := fun _ x y => laws_eqCosts.f x.1 x.2.1, out := fun y => (y, ()), inn := fun d => d.1, inv := fun _ => rfl }
theorem laws_eqCosts.ok : laws_eqCosts.c.OK Tryz.prog :=
  FnD.of laws_eqCosts.c mix tok (fn := Tryz.f50) Tryz.func50 (by kernel_rfl) (fun _ _ => by kernel_rfl) (by kernel_rfl) (by kernel_rfl) [] trivial
    [] { c := fun _ => none, cc := [], ms := [], tn := [], sh := false, fm := [] } rfl 5000 trivial (fun k x y => by kernel_rfl)

/-! ### loop.example/g00076/laws.eqPolicy: function 133 -/
def laws_eqPolicy.f (a0 : S69) (a1 : S69) : Option (Bool) := if a0.f0 = a1.f0 then (if a0.f1 = a1.f1 then (some true) else (some false)) else (some false)
def laws_eqPolicy.c : FnD := { f := 133, sh := false, ps := [.agg T69, .agg T69], pb := [], vc := .c (.bool), bs := [], R := Bool, fn := fun _ x y => laws_eqPolicy.f x.1 x.2.1, out := fun y => (y, ()), inn := fun d => d.1, inv := fun _ => rfl }
theorem laws_eqPolicy.ok : laws_eqPolicy.c.OK Tryz.prog :=
  FnD.of laws_eqPolicy.c mix tok (fn := Tryz.f133) Tryz.func133 (by kernel_rfl) (fun _ _ => by kernel_rfl) (by kernel_rfl) (by kernel_rfl) [] trivial
    [] { c := fun _ => none, cc := [], ms := [], tn := [], sh := false, fm := [] } rfl 5000 trivial (fun k x y => by kernel_rfl)

/-! ### loop.example/g00076/laws.eqWindow: function 147 -/
def laws_eqWindow.f (a0 : S75) (a1 : S75) : Option (Bool) := if a0.f0 = a1.f0 then (if a0.f1 = a1.f1 then (if a0.f2 = a1.f2 then (some true) else (some false)) else (some false)) else (some false)
def laws_eqWindow.c : FnD := { f := 147, sh := false, ps := [.agg T75, .agg T75], pb := [], vc := .c (.bool), bs := [], R := Bool, fn := fun _ x y => laws_eqWindow.f x.1 x.2.1, out := fun y => (y, ()), inn := fun d => d.1, inv := fun _ => rfl }
theorem laws_eqWindow.ok : laws_eqWindow.c.OK Tryz.prog :=
  FnD.of laws_eqWindow.c mix tok (fn := Tryz.f147) Tryz.func147 (by kernel_rfl) (fun _ _ => by kernel_rfl) (by kernel_rfl) (by kernel_rfl) [] trivial
    [] { c := fun _ => none, cc := [], ms := [], tn := [], sh := false, fm := [] } rfl 5000 trivial (fun k x y => by kernel_rfl)

/-! ### loop.example/g00076/laws.eqWindowS: function 134 -/
def laws_eqWindowS.l8 : Nat → (List S75) → (List S75) → Int → Option (Bool)
  | 0, _, _, _ => none
  | k + 1, x0, x1, x5 => if x5 < (x0.length : Int) then (if 0 ≤ x5 then (if x5 < (x0.length : Int) then (if 0 ≤ x5 then (if x5 < (x1.length : Int) then ((laws_eqWindow.f (rd_T75 x0 x5) (rd_T75 x1 x5)).bind fun t1 => (if t1 = true then (laws_eqWindowS.l8 k x0 x1 (wrap64 (x5 + 1))) else (some false))) else none) else none) else none) else none) else (some true)
def laws_eqWindowS.f (k : Nat) (a0 : List S75) (a1 : List S75) : Option (Bool) := if (a0.length : Int) = (a1.length : Int) then (laws_eqWindowS.l8 k a0 a1 0) else (some false)
def laws_eqWindowS.c : FnD := { f := 134, sh := false, ps := [.c (.sl T75), .c (.sl T75)], pb := [], vc := .c (.bool), bs := [], R := Bool, fn := fun k x y => laws_eqWindowS.f k x.1 x.2.1, out := fun y => (y, ()), inn := fun d => d.1, inv := fun _ => rfl }
theorem laws_eqWindowS.ok : laws_eqWindowS.c.OK Tryz.prog :=
  FnD.of laws_eqWindowS.c mix tok (fn := Tryz.f134) Tryz.func134 (by kernel_rfl) (fun _ _ => by kernel_rfl) (by kernel_rfl) (by kernel_rfl) [laws_eqWindow.c] ⟨laws_eqWindow.ok, trivial⟩
    [{ lbl := 8, live := [(0, none), (1, none), (5, none)], ms := [], vs := [.c (.sl false T75), .c (.sl false T75), .c (.int .i64)], bs := [], f := fun k x y => laws_eqWindowS.l8 k x.1 x.2.1 x.2.2.1 }] { c := fun _ => none, cc := [], ms := [], tn := [], sh := false, fm := [] } rfl 5000 ⟨⟨fun _ _ => rfl, fun k x y => by kernel_rfl⟩, trivial⟩ (fun k x y => by kernel_rfl)

/-! ### loop.example/g00076/laws.eqPartRow: function 93 -/
def laws_eqPartRow.f (k : Nat) (a0 : S72) (a1 : S72) : Option (Bool) := if a0.f0 = a1.f0 then (if a0.f1 = a1.f1 then ((laws_eqPolicy.f a0.f2 a1.f2).bind fun t1 => (if t1 = true then ((laws_eqWindowS.f k a0.f3 a1.f3).bind fun t2 => (if t2 = true then (some true) else (some false))) else (some false))) else (some false)) else (some false)
def laws_eqPartRow.c : FnD := { f := 93, sh := false, ps := [.agg T72, .agg T72], pb := [], vc := .c (.bool), bs := [], R := Bool, fn := fun k x y => laws_eqPartRow.f k x.1 x.2.1, out := fun y => (y, ()), inn := fun d => d.1, inv := fun _ => rfl }
theorem laws_eqPartRow.ok : laws_eqPartRow.c.OK Tryz.prog :=
  FnD.of laws_eqPartRow.c mix tok (fn := Tryz.f93) Tryz.func93 (by kernel_rfl) (fun _ _ => by kernel_rfl) (by kernel_rfl) (by kernel_rfl) [laws_eqPolicy.c, laws_eqWindowS.c] ⟨laws_eqPolicy.ok, ⟨laws_eqWindowS.ok, trivial⟩⟩
    [] { c := fun _ => none, cc := [], ms := [], tn := [], sh := false, fm := [] } rfl 5000 trivial (fun k x y => by kernel_rfl)

/-! ### loop.example/g00076/laws.eqPartRowS: function 51 -/
def laws_eqPartRowS.l8 : Nat → (List S72) → (List S72) → Int → Option (Bool)
  | 0, _, _, _ => none
  | k + 1, x0, x1, x5 => if x5 < (x0.length : Int) then (if 0 ≤ x5 then (if x5 < (x0.length : Int) then (if 0 ≤ x5 then (if x5 < (x1.length : Int) then ((laws_eqPartRow.f k (rd_T72 x0 x5) (rd_T72 x1 x5)).bind fun t1 => (if t1 = true then (laws_eqPartRowS.l8 k x0 x1 (wrap64 (x5 + 1))) else (some false))) else none) else none) else none) else none) else (some true)
def laws_eqPartRowS.f (k : Nat) (a0 : List S72) (a1 : List S72) : Option (Bool) := if (a0.length : Int) = (a1.length : Int) then (laws_eqPartRowS.l8 k a0 a1 0) else (some false)
def laws_eqPartRowS.c : FnD := { f := 51, sh := false, ps := [.c (.sl T72), .c (.sl T72)], pb := [], vc := .c (.bool), bs := [], R := Bool, fn := fun k x y => laws_eqPartRowS.f k x.1 x.2.1, out := fun y => (y, ()), inn := fun d => d.1, inv := fun _ => rfl }
theorem laws_eqPartRowS.ok : laws_eqPartRowS.c.OK Tryz.prog :=
  FnD.of laws_eqPartRowS.c mix tok (fn := Tryz.f51) Tryz.func51 (by kernel_rfl) (fun _ _ => by kernel_rfl) (by kernel_rfl) (by kernel_rfl) [laws_eqPartRow.c] ⟨laws_eqPartRow.ok, trivial⟩
    [{ lbl := 8, live := [(0, none), (1, none), (5, none)], ms := [], vs := [.c (.sl false T72), .c (.sl false T72), .c (.int .i64)], bs := [], f := fun k x y => laws_eqPartRowS.l8 k x.1 x.2.1 x.2.2.1 }] { c := fun _ => none, cc := [], ms := [], tn := [], sh := false, fm := [] } rfl 5000 ⟨⟨fun _ _ => rfl, fun k x y => by kernel_rfl⟩, trivial⟩ (fun k x y => by kernel_rfl)

/-! ### loop.example/g00076/laws.eqIntS: function 23 -/
def laws_eqIntS.l8 : Nat → (List Int) → (List Int) → Int → Option (Bool)
  | 0, _, _, _ => none
  | k + 1, x0, x1, x5 => if x5 < (x0.length : Int) then (if 0 ≤ x5 then (if x5 < (x0.length : Int) then (if 0 ≤ x5 then (if x5 < (x1.length : Int) then (if (rd x0 x5) = (rd x1 x5) then (laws_eqIntS.l8 k x0 x1 (wrap64 (x5 + 1))) else (some false)) else none) else none) else none) else none) else (some true)
def laws_eqIntS.f (k : Nat) (a0 : List Int) (a1 : List Int) : Option (Bool) := if (a0.length : Int) = (a1.length : Int) then (laws_eqIntS.l8 k a0 a1 0) else (some false)
def laws_eqIntS.c : FnD := { f := 23, sh := false, ps := [.c (.sl (.int .i64)), .c (.sl (.int .i64))], pb := [], vc := .c (.bool), bs := [], R := Bool, fn := fun k x y => laws_eqIntS.f k x.1 x.2.1, out := fun y => (y, ()), inn := fun d => d.1, inv := fun _ => rfl }
theorem laws_eqIntS.ok : laws_eqIntS.c.OK Tryz.prog :=
  FnD.of laws_eqIntS.c mix tok (fn := Tryz.f23) Tryz.func23 (by kernel_rfl) (fun _ _ => by kernel_rfl) (by kernel_rfl) (by kernel_rfl) [] trivial
    [{ lbl := 8, live := [(0, none), (1, none), (5, none)], ms := [], vs := [.c (.sl false (.int .i64)), .c (.sl false (.int .i64)), .c (.int .i64)], bs := [], f := fun k x y => laws_eqIntS.l8 k x.1 x.2.1 x.2.2.1 }] { c := fun _ => none, cc := [], ms := [], tn := [], sh := false, fm := [] } rfl 5000 ⟨⟨fun _ _ => rfl, fun k x y => by kernel_rfl⟩, trivial⟩ (fun k x y => by kernel_rfl)

/-! ### loop.example/g00076/laws.eqChanRow: function 94 -/
def laws_eqChanRow.f (a0 : S111) (a1 : S111) : Option (Bool) := if a0.f0 = a1.f0 then (if a0.f1 = a1.f1 then (if a0.f2 = a1.f2 then (if a0.f3 = a1.f3 then (some true) else (some false)) else (some false)) else (some false)) else (some false)
def laws_eqChanRow.c : FnD := { f := 94, sh := false, ps := [.agg T111, .agg T111], pb := [], vc := .c (.bool), bs := [], R := Bool, fn := fun _ x y => laws_eqChanRow.f x.1 x.2.1, out := fun y => (y, ()), inn := fun d => d.1, inv := fun _ => rfl }
theorem laws_eqChanRow.ok : laws_eqChanRow.c.OK Tryz.prog :=
  FnD.of laws_eqChanRow.c mix tok (fn := Tryz.f94) Tryz.func94 (by kernel_rfl) (fun _ _ => by kernel_rfl) (by kernel_rfl) (by kernel_rfl) [] trivial
    [] { c := fun _ => none, cc := [], ms := [], tn := [], sh := false, fm := [] } rfl 5000 trivial (fun k x y => by kernel_rfl)

/-! ### loop.example/g00076/laws.eqChanRowS: function 52 -/
def laws_eqChanRowS.l8 : Nat → (List S111) → (List S111) → Int → Option (Bool)
  | 0, _, _, _ => none
  | k + 1, x0, x1, x5 => if x5 < (x0.length : Int) then (if 0 ≤ x5 then (if x5 < (x0.length : Int) then (if 0 ≤ x5 then (if x5 < (x1.length : Int) then ((laws_eqChanRow.f (rd_T111 x0 x5) (rd_T111 x1 x5)).bind fun t1 => (if t1 = true then (laws_eqChanRowS.l8 k x0 x1 (wrap64 (x5 + 1))) else (some false))) else none) else none) else none) else none) else (some true)
def laws_eqChanRowS.f (k : Nat) (a0 : List S111) (a1 : List S111) : Option (Bool) := if (a0.length : Int) = (a1.length : Int) then (laws_eqChanRowS.l8 k a0 a1 0) else (some false)
def laws_eqChanRowS.c : FnD := { f := 52, sh := false, ps := [.c (.sl T111), .c (.sl T111)], pb := [], vc := .c (.bool), bs := [], R := Bool, fn := fun k x y => laws_eqChanRowS.f k x.1 x.2.1, out := fun y => (y, ()), inn := fun d => d.1, inv := fun _ => rfl }
theorem laws_eqChanRowS.ok : laws_eqChanRowS.c.OK Tryz.prog :=
  FnD.of laws_eqChanRowS.c mix tok (fn := Tryz.f52) Tryz.func52 (by kernel_rfl) (fun _ _ => by kernel_rfl) (by kernel_rfl) (by kernel_rfl) [laws_eqChanRow.c] ⟨laws_eqChanRow.ok, trivial⟩
    [{ lbl := 8, live := [(0, none), (1, none), (5, none)], ms := [], vs := [.c (.sl false T111), .c (.sl false T111), .c (.int .i64)], bs := [], f := fun k x y => laws_eqChanRowS.l8 k x.1 x.2.1 x.2.2.1 }] { c := fun _ => none, cc := [], ms := [], tn := [], sh := false, fm := [] } rfl 5000 ⟨⟨fun _ _ => rfl, fun k x y => by kernel_rfl⟩, trivial⟩ (fun k x y => by kernel_rfl)

/-! ### loop.example/g00076/laws.eqSlot: function 95 -/
def laws_eqSlot.f (a0 : S95) (a1 : S95) : Option (Bool) := if a0.f0 = a1.f0 then (if a0.f1 = a1.f1 then (if a0.f2 = a1.f2 then (some true) else (some false)) else (some false)) else (some false)
def laws_eqSlot.c : FnD := { f := 95, sh := false, ps := [.agg T95, .agg T95], pb := [], vc := .c (.bool), bs := [], R := Bool, fn := fun _ x y => laws_eqSlot.f x.1 x.2.1, out := fun y => (y, ()), inn := fun d => d.1, inv := fun _ => rfl }
theorem laws_eqSlot.ok : laws_eqSlot.c.OK Tryz.prog :=
  FnD.of laws_eqSlot.c mix tok (fn := Tryz.f95) Tryz.func95 (by kernel_rfl) (fun _ _ => by kernel_rfl) (by kernel_rfl) (by kernel_rfl) [] trivial
    [] { c := fun _ => none, cc := [], ms := [], tn := [], sh := false, fm := [] } rfl 5000 trivial (fun k x y => by kernel_rfl)

/-! ### loop.example/g00076/laws.eqSlotS: function 53 -/
def laws_eqSlotS.l8 : Nat → (List S95) → (List S95) → Int → Option (Bool)
  | 0, _, _, _ => none
  | k + 1, x0, x1, x5 => if x5 < (x0.length : Int) then (if 0 ≤ x5 then (if x5 < (x0.length : Int) then (if 0 ≤ x5 then (if x5 < (x1.length : Int) then ((laws_eqSlot.f (rd_T95 x0 x5) (rd_T95 x1 x5)).bind fun t1 => (if t1 = true then (laws_eqSlotS.l8 k x0 x1 (wrap64 (x5 + 1))) else (some false))) else none) else none) else none) else none) else (some true)
def laws_eqSlotS.f (k : Nat) (a0 : List S95) (a1 : List S95) : Option (Bool) := if (a0.length : Int) = (a1.length : Int) then (laws_eqSlotS.l8 k a0 a1 0) else (some false)
def laws_eqSlotS.c : FnD := { f := 53, sh := false, ps := [.c (.sl T95), .c (.sl T95)], pb := [], vc := .c (.bool), bs := [], R := Bool, fn := fun k x y => laws_eqSlotS.f k x.1 x.2.1, out := fun y => (y, ()), inn := fun d => d.1, inv := fun _ => rfl }
theorem laws_eqSlotS.ok : laws_eqSlotS.c.OK Tryz.prog :=
  FnD.of laws_eqSlotS.c mix tok (fn := Tryz.f53) Tryz.func53 (by kernel_rfl) (fun _ _ => by kernel_rfl) (by kernel_rfl) (by kernel_rfl) [laws_eqSlot.c] ⟨laws_eqSlot.ok, trivial⟩
    [{ lbl := 8, live := [(0, none), (1, none), (5, none)], ms := [], vs := [.c (.sl false T95), .c (.sl false T95), .c (.int .i64)], bs := [], f := fun k x y => laws_eqSlotS.l8 k x.1 x.2.1 x.2.2.1 }] { c := fun _ => none, cc := [], ms := [], tn := [], sh := false, fm := [] } rfl 5000 ⟨⟨fun _ _ => rfl, fun k x y => by kernel_rfl⟩, trivial⟩ (fun k x y => by kernel_rfl)

/-! ### loop.example/g00076/laws.eqTables: function 14 -/
def laws_eqTables.f (k : Nat) (a0 : S43) (a1 : S43) : Option (Bool) := if a0.f0 = a1.f0 then ((laws_eqShape.f a0.f1 a1.f1).bind fun t1 => (if t1 = true then (if a0.f2 = a1.f2 then ((laws_eqCosts.f a0.f3 a1.f3).bind fun t2 => (if t2 = true then (if a0.f4 = a1.f4 then (if a0.f5 = a1.f5 then (if a0.f6 = a1.f6 then ((laws_eqPartRowS.f k a0.f7 a1.f7).bind fun t3 => (if t3 = true then ((laws_eqIntS.f k a0.f8 a1.f8).bind fun t4 => (if t4 = true then ((laws_eqChanRowS.f k a0.f9 a1.f9).bind fun t5 => (if t5 = true then ((laws_eqSlotS.f k a0.f10 a1.f10).bind fun t6 => (if t6 = true then (some true) else (some false))) else (some false))) else (some false))) else (some false))) else (some false)) else (some false)) else (some false)) else (some false))) else (some false)) else (some false))) else (some false)
def laws_eqTables.c : FnD := { f := 14, sh := false, ps := [.agg T43, .agg T43], pb := [], vc := .c (.bool), bs := [], R := Bool, fn := fun k x y => laws_eqTables.f k x.1 x.2.1, out := fun y => (y, ()), inn := fun d => d.1, inv := fun _ => rfl }
theorem laws_eqTables.ok : laws_eqTables.c.OK Tryz.prog :=
  FnD.of laws_eqTables.c mix tok (fn := Tryz.f14) Tryz.func14 (by kernel_rfl) (fun _ _ => by kernel_rfl) (by kernel_rfl) (by kernel_rfl) [laws_eqShape.c, laws_eqCosts.c, laws_eqPartRowS.c, laws_eqIntS.c, laws_eqChanRowS.c, laws_eqSlotS.c] ⟨laws_eqShape.ok, ⟨laws_eqCosts.ok, ⟨laws_eqPartRowS.ok, ⟨laws_eqIntS.ok, ⟨laws_eqChanRowS.ok, ⟨laws_eqSlotS.ok, trivial⟩⟩⟩⟩⟩⟩
    [] { c := fun _ => none, cc := [], ms := [], tn := [], sh := false, fm := [] } rfl 5000 trivial (fun k x y => by kernel_rfl)

/-! ### loop.example/g00076/laws.eqUint32S: function 15 -/
def laws_eqUint32S.l8 : Nat → (List Int) → (List Int) → Int → Option (Bool)
  | 0, _, _, _ => none
  | k + 1, x0, x1, x5 => if x5 < (lenZ x0) then (if 0 ≤ x5 then (if x5 < (x0.length : Int) then (if 0 ≤ x5 then (if x5 < (x1.length : Int) then (if (rd x0 x5) = (rd x1 x5) then (laws_eqUint32S.l8 k x0 x1 (wrap64 (x5 + 1))) else (some false)) else none) else none) else none) else none) else (some true)
def laws_eqUint32S.f (k : Nat) (a0 : List Int) (a1 : List Int) : Option (Bool) := if (lenZ a0) = (lenZ a1) then (laws_eqUint32S.l8 k a0 a1 0) else (some false)
def laws_eqUint32S.c : FnD := { f := 15, sh := false, ps := [.c (.sl (.int .u32)), .c (.sl (.int .u32))], pb := [], vc := .c (.bool), bs := [], R := Bool, fn := fun k x y => laws_eqUint32S.f k x.1 x.2.1, out := fun y => (y, ()), inn := fun d => d.1, inv := fun _ => rfl }
theorem laws_eqUint32S.ok : laws_eqUint32S.c.OK Tryz.prog :=
  FnD.of laws_eqUint32S.c mix tok (fn := Tryz.f15) Tryz.func15 (by kernel_rfl) (fun _ _ => by kernel_rfl) (by kernel_rfl) (by kernel_rfl) [] trivial
    [{ lbl := 8, live := [(0, none), (1, none), (5, none)], ms := [], vs := [.c (.sl false (.int .u32)), .c (.sl false (.int .u32)), .c (.int .i64)], bs := [], f := fun k x y => laws_eqUint32S.l8 k x.1 x.2.1 x.2.2.1 }] { c := fun _ => none, cc := [], ms := [], tn := [], sh := false, fm := [] } rfl 5000 ⟨⟨fun _ _ => rfl, fun k x y => by kernel_rfl⟩, trivial⟩ (fun k x y => by kernel_rfl)

/-! ### loop.example/g00076/laws.markText: function 96 -/
def laws_markText.l8 : Nat → Int → ByteArray → Option (ByteArray)
  | 0, _, _ => none
  | k + 1, x0, x3 => if x0 > 0 then (if (strOf ([(IntKind.wrap .u8 ((wrap64 (48 + (Int.tmod x0 10)))))] : List Int)).size + x3.size ≤ 9223372036854775807 then (laws_markText.l8 k (wrap64 (Int.tdiv x0 10)) ((strOf ([(IntKind.wrap .u8 ((wrap64 (48 + (Int.tmod x0 10)))))] : List Int)) ++ x3)) else none) else (if (ByteArray.mk #[109]).size + x3.size ≤ 9223372036854775807 then (some ((ByteArray.mk #[109]) ++ x3)) else none)
def laws_markText.f (k : Nat) (a0 : Int) : Option (ByteArray) := if a0 ≤ 0 then (some (ByteArray.mk #[109, 48])) else (laws_markText.l8 k a0 (ByteArray.mk #[]))
def laws_markText.c : FnD := { f := 96, sh := false, ps := [.c (.int .i64)], pb := [], vc := .c (.str), bs := [], R := ByteArray, fn := fun k x y => laws_markText.f k x.1, out := fun y => (y, ()), inn := fun d => d.1, inv := fun _ => rfl }
theorem laws_markText.ok : laws_markText.c.OK Tryz.prog :=
  FnD.of laws_markText.c mix tok (fn := Tryz.f96) Tryz.func96 (by kernel_rfl) (fun _ _ => by kernel_rfl) (by kernel_rfl) (by kernel_rfl) [] trivial
    [{ lbl := 8, live := [(0, none), (3, none)], ms := [], vs := [.c (.int .i64), .c (.str)], bs := [], f := fun k x y => laws_markText.l8 k x.1 x.2.1 }] { c := fun _ => none, cc := [], ms := [], tn := [], sh := false, fm := [] } rfl 5000 ⟨⟨fun _ _ => rfl, fun k x y => by kernel_rfl⟩, trivial⟩ (fun k x y => by kernel_rfl)

/-! ### loop.example/g00076/laws.markWindowS: function 97 -/
def laws_markWindowS_o1.l4 : Nat → Int → Int → (List S75) → Option (Int × (List S75))
  | 0, _, _, _ => none
  | k + 1, x1, x5, h0 => if x5 < (h0.length : Int) then (if 0 ≤ x5 then (if x5 < (h0.length : Int) then ((let q1 : List S75 := h0.set x5.toNat (⟨x1, (rd_T75 h0 x5).f1, (rd_T75 h0 x5).f2⟩ : S75); if 0 ≤ x5 then (if x5 < (q1.length : Int) then ((let q2 : List S75 := q1.set x5.toNat (⟨(rd_T75 q1 x5).f0, (wrap64 (x1 + 1)), (rd_T75 q1 x5).f2⟩ : S75); if 0 ≤ x5 then (if x5 < (q2.length : Int) then ((let q3 : List S75 := q2.set x5.toNat (⟨(rd_T75 q2 x5).f0, (rd_T75 q2 x5).f1, (wrap64 ((wrap64 (x1 + 1)) + 1))⟩ : S75); laws_markWindowS_o1.l4 k (wrap64 ((wrap64 ((wrap64 (x1 + 1)) + 1)) + 1)) (wrap64 (x5 + 1)) q3)) else none) else none)) else none) else none)) else none) else none) else (some (x1, h0))
def laws_markWindowS_o1.f (k : Nat) (a1 : Int) (h0 : List S75) : Option (Int × (List S75)) := laws_markWindowS_o1.l4 k a1 0 h0
def laws_markWindowS_o1.c : FnD := { f := 97, sh := false, ps := [.vc (.c (.own 0)), .c (.int .i64)], pb := [.arr T75 .un], vc := .c (.int .i64), bs := [.arr T75 .un], R := Int × (List S75), fn := fun k x y => laws_markWindowS_o1.f k x.2.1 y.1, out := fun y => (y.1, (y.2, ())), inn := fun d => (d.1, d.2.1), inv := fun _ => rfl }
theorem laws_markWindowS_o1.ok : laws_markWindowS_o1.c.OK Tryz.prog :=
  FnD.of laws_markWindowS_o1.c mix tok (fn := Tryz.f97) Tryz.func97 (by kernel_rfl) (fun _ _ => by kernel_rfl) (by kernel_rfl) (by kernel_rfl) [] trivial
    [{ lbl := 4, live := [(0, none), (1, none), (5, none)], ms := [], vs := [.c (.own 0), .c (.int .i64), .c (.int .i64)], bs := [.arr T75 .un], f := fun k x y => laws_markWindowS_o1.l4 k x.2.1 x.2.2.1 y.1 }] { c := fun _ => none, cc := [], ms := [], tn := [], sh := false, fm := [] } rfl 5000 ⟨⟨fun _ _ => rfl, fun k x y => by kernel_rfl⟩, trivial⟩ (fun k x y => by kernel_rfl)

/-! ### loop.example/g00076/laws.markPartRowS: function 54 -/
def laws_markPartRowS_o1.l4 : Nat → Int → Int → (List S72) → Option (Int × (List S72))
  | 0, _, _, _ => none
  | k + 1, x1, x5, h0 => if x5 < (h0.length : Int) then ((laws_markText.f k x1).bind fun t1 => (if 0 ≤ x5 then (if x5 < (h0.length : Int) then ((let q2 : List S72 := h0.set x5.toNat (⟨t1, (rd_T72 h0 x5).f1, (rd_T72 h0 x5).f2, (rd_T72 h0 x5).f3⟩ : S72); if 0 ≤ x5 then (if x5 < (q2.length : Int) then ((let q3 : List S72 := q2.set x5.toNat (⟨(rd_T72 q2 x5).f0, (wrap64 (x1 + 1)), (rd_T72 q2 x5).f2, (rd_T72 q2 x5).f3⟩ : S72); if 0 ≤ x5 then (if x5 < (q3.length : Int) then ((let q4 : List S72 := q3.set x5.toNat (⟨(rd_T72 q3 x5).f0, (rd_T72 q3 x5).f1, (⟨(wrap64 ((wrap64 (x1 + 1)) + 1)), ((rd_T72 q3 x5).f2).f1⟩ : S69), (rd_T72 q3 x5).f3⟩ : S72); if 0 ≤ x5 then (if x5 < (q4.length : Int) then ((let q5 : List S72 := q4.set x5.toNat (⟨(rd_T72 q4 x5).f0, (rd_T72 q4 x5).f1, (⟨((rd_T72 q4 x5).f2).f0, (wrap64 ((wrap64 ((wrap64 (x1 + 1)) + 1)) + 1))⟩ : S69), (rd_T72 q4 x5).f3⟩ : S72); if 0 ≤ x5 then (if x5 < (q5.length : Int) then ((laws_markWindowS_o1.f k (wrap64 ((wrap64 ((wrap64 ((wrap64 (x1 + 1)) + 1)) + 1)) + 1)) ((rd_T72 q5 x5).f3)).bind fun t6 => (laws_markPartRowS_o1.l4 k t6.1 (wrap64 (x5 + 1)) (q5.set x5.toNat (⟨(rd_T72 q5 x5).f0, (rd_T72 q5 x5).f1, (rd_T72 q5 x5).f2, t6.2⟩ : S72)))) else none) else none)) else none) else none)) else none) else none)) else none) else none)) else none) else none)) else (some (x1, h0))
def laws_markPartRowS_o1.f (k : Nat) (a1 : Int) (h0 : List S72) : Option (Int × (List S72)) := laws_markPartRowS_o1.l4 k a1 0 h0
def laws_markPartRowS_o1.c : FnD := { f := 54, sh := false, ps := [.vc (.c (.own 0)), .c (.int .i64)], pb := [.arr T72 .un], vc := .c (.int .i64), bs := [.arr T72 .un], R := Int × (List S72), fn := fun k x y => laws_markPartRowS_o1.f k x.2.1 y.1, out := fun y => (y.1, (y.2, ())), inn := fun d => (d.1, d.2.1), inv := fun _ => rfl }
theorem laws_markPartRowS_o1.ok : laws_markPartRowS_o1.c.OK Tryz.prog :=
  FnD.of laws_markPartRowS_o1.c mix tok (fn := Tryz.f54) Tryz.func54 (by kernel_rfl) (fun _ _ => by kernel_rfl) (by kernel_rfl) (by kernel_rfl) [laws_markWindowS_o1.c, laws_markText.c] ⟨laws_markWindowS_o1.ok, ⟨laws_markText.ok, trivial⟩⟩
    [{ lbl := 4, live := [(0, none), (1, none), (5, none)], ms := [], vs := [.c (.own 0), .c (.int .i64), .c (.int .i64)], bs := [.arr T72 .un], f := fun k x y => laws_markPartRowS_o1.l4 k x.2.1 x.2.2.1 y.1 }] { c := fun _ => none, cc := [], ms := [], tn := [], sh := false, fm := [] } rfl 5000 ⟨⟨fun _ _ => rfl, fun k x y => by kernel_rfl⟩, trivial⟩ (fun k x y => by kernel_rfl)

/-! ### loop.example/g00076/laws.markIntS: function 24 -/
def laws_markIntS_o1.l4 : Nat → Int → Int → (List Int) → Option (Int × (List Int))
  | 0, _, _, _ => none
  | k + 1, x1, x5, h0 => if x5 < (h0.length : Int) then (if 0 ≤ x5 then (if x5 < (h0.length : Int) then (laws_markIntS_o1.l4 k (wrap64 (x1 + 1)) (wrap64 (x5 + 1)) (h0.set x5.toNat x1)) else none) else none) else (some (x1, h0))
def laws_markIntS_o1.f (k : Nat) (a1 : Int) (h0 : List Int) : Option (Int × (List Int)) := laws_markIntS_o1.l4 k a1 0 h0
def laws_markIntS_o1.c : FnD := { f := 24, sh := false, ps := [.vc (.c (.own 0)), .c (.int .i64)], pb := [.arr (.int .i64) .un], vc := .c (.int .i64), bs := [.arr (.int .i64) .un], R := Int × (List Int), fn := fun k x y => laws_markIntS_o1.f k x.2.1 y.1, out := fun y => (y.1, (y.2, ())), inn := fun d => (d.1, d.2.1), inv := fun _ => rfl }
theorem laws_markIntS_o1.ok : laws_markIntS_o1.c.OK Tryz.prog :=
  FnD.of laws_markIntS_o1.c mix tok (fn := Tryz.f24) Tryz.func24 (by kernel_rfl) (fun _ _ => by kernel_rfl) (by kernel_rfl) (by kernel_rfl) [] trivial
    [{ lbl := 4, live := [(0, none), (1, none), (5, none)], ms := [], vs := [.c (.own 0), .c (.int .i64), .c (.int .i64)], bs := [.arr (.int .i64) .un], f := fun k x y => laws_markIntS_o1.l4 k x.2.1 x.2.2.1 y.1 }] { c := fun _ => none, cc := [], ms := [], tn := [], sh := false, fm := [] } rfl 5000 ⟨⟨fun _ _ => rfl, fun k x y => by kernel_rfl⟩, trivial⟩ (fun k x y => by kernel_rfl)

/-! ### loop.example/g00076/laws.markChanRowS: function 55 -/
def laws_markChanRowS_o1.l4 : Nat → Int → Int → (List S111) → Option (Int × (List S111))
  | 0, _, _, _ => none
  | k + 1, x1, x5, h0 => if x5 < (h0.length : Int) then (if 0 ≤ x5 then (if x5 < (h0.length : Int) then ((let q1 : List S111 := h0.set x5.toNat (⟨x1, (rd_T111 h0 x5).f1, (rd_T111 h0 x5).f2, (rd_T111 h0 x5).f3⟩ : S111); if 0 ≤ x5 then (if x5 < (q1.length : Int) then ((let q2 : List S111 := q1.set x5.toNat (⟨(rd_T111 q1 x5).f0, (wrap64 (x1 + 1)), (rd_T111 q1 x5).f2, (rd_T111 q1 x5).f3⟩ : S111); if 0 ≤ x5 then (if x5 < (q2.length : Int) then ((let q3 : List S111 := q2.set x5.toNat (⟨(rd_T111 q2 x5).f0, (rd_T111 q2 x5).f1, (wrap64 ((wrap64 (x1 + 1)) + 1)), (rd_T111 q2 x5).f3⟩ : S111); if 0 ≤ x5 then (if x5 < (q3.length : Int) then ((let q4 : List S111 := q3.set x5.toNat (⟨(rd_T111 q3 x5).f0, (rd_T111 q3 x5).f1, (rd_T111 q3 x5).f2, (wrap64 ((wrap64 ((wrap64 (x1 + 1)) + 1)) + 1))⟩ : S111); laws_markChanRowS_o1.l4 k (wrap64 ((wrap64 ((wrap64 ((wrap64 (x1 + 1)) + 1)) + 1)) + 1)) (wrap64 (x5 + 1)) q4)) else none) else none)) else none) else none)) else none) else none)) else none) else none) else (some (x1, h0))
def laws_markChanRowS_o1.f (k : Nat) (a1 : Int) (h0 : List S111) : Option (Int × (List S111)) := laws_markChanRowS_o1.l4 k a1 0 h0
def laws_markChanRowS_o1.c : FnD := { f := 55, sh := false, ps := [.vc (.c (.own 0)), .c (.int .i64)], pb := [.arr T111 .un], vc := .c (.int .i64), bs := [.arr T111 .un], R := Int × (List S111), fn := fun k x y => laws_markChanRowS_o1.f k x.2.1 y.1, out := fun y => (y.1, (y.2, ())), inn := fun d => (d.1, d.2.1), inv := fun _ => rfl }
theorem laws_markChanRowS_o1.ok : laws_markChanRowS_o1.c.OK Tryz.prog :=
  FnD.of laws_markChanRowS_o1.c mix tok (fn := Tryz.f55) Tryz.func55 (by kernel_rfl) (fun _ _ => by kernel_rfl) (by kernel_rfl) (by kernel_rfl) [] trivial
    [{ lbl := 4, live := [(0, none), (1, none), (5, none)], ms := [], vs := [.c (.own 0), .c (.int .i64), .c (.int .i64)], bs := [.arr T111 .un], f := fun k x y => laws_markChanRowS_o1.l4 k x.2.1 x.2.2.1 y.1 }] { c := fun _ => none, cc := [], ms := [], tn := [], sh := false, fm := [] } rfl 5000 ⟨⟨fun _ _ => rfl, fun k x y => by kernel_rfl⟩, trivial⟩ (fun k x y => by kernel_rfl)

/-! ### loop.example/g00076/laws.markSlotS: function 56 -/
def laws_markSlotS_o1.l4 : Nat → Int → Int → (List S95) → Option (Int × (List S95))
  | 0, _, _, _ => none
  | k + 1, x1, x5, h0 => if x5 < (h0.length : Int) then (if 0 ≤ x5 then (if x5 < (h0.length : Int) then ((let q1 : List S95 := h0.set x5.toNat (⟨x1, (rd_T95 h0 x5).f1, (rd_T95 h0 x5).f2⟩ : S95); if 0 ≤ x5 then (if x5 < (q1.length : Int) then ((let q2 : List S95 := q1.set x5.toNat (⟨(rd_T95 q1 x5).f0, (wrap64 (x1 + 1)), (rd_T95 q1 x5).f2⟩ : S95); if 0 ≤ x5 then (if x5 < (q2.length : Int) then ((let q3 : List S95 := q2.set x5.toNat (⟨(rd_T95 q2 x5).f0, (rd_T95 q2 x5).f1, (wrap64 ((wrap64 (x1 + 1)) + 1))⟩ : S95); laws_markSlotS_o1.l4 k (wrap64 ((wrap64 ((wrap64 (x1 + 1)) + 1)) + 1)) (wrap64 (x5 + 1)) q3)) else none) else none)) else none) else none)) else none) else none) else (some (x1, h0))
def laws_markSlotS_o1.f (k : Nat) (a1 : Int) (h0 : List S95) : Option (Int × (List S95)) := laws_markSlotS_o1.l4 k a1 0 h0
def laws_markSlotS_o1.c : FnD := { f := 56, sh := false, ps := [.vc (.c (.own 0)), .c (.int .i64)], pb := [.arr T95 .un], vc := .c (.int .i64), bs := [.arr T95 .un], R := Int × (List S95), fn := fun k x y => laws_markSlotS_o1.f k x.2.1 y.1, out := fun y => (y.1, (y.2, ())), inn := fun d => (d.1, d.2.1), inv := fun _ => rfl }
theorem laws_markSlotS_o1.ok : laws_markSlotS_o1.c.OK Tryz.prog :=
  FnD.of laws_markSlotS_o1.c mix tok (fn := Tryz.f56) Tryz.func56 (by kernel_rfl) (fun _ _ => by kernel_rfl) (by kernel_rfl) (by kernel_rfl) [] trivial
    [{ lbl := 4, live := [(0, none), (1, none), (5, none)], ms := [], vs := [.c (.own 0), .c (.int .i64), .c (.int .i64)], bs := [.arr T95 .un], f := fun k x y => laws_markSlotS_o1.l4 k x.2.1 x.2.2.1 y.1 }] { c := fun _ => none, cc := [], ms := [], tn := [], sh := false, fm := [] } rfl 5000 ⟨⟨fun _ _ => rfl, fun k x y => by kernel_rfl⟩, trivial⟩ (fun k x y => by kernel_rfl)

/-! ### loop.example/g00076/laws.markTables: function 16 -/
def laws_markTables_o1.f (k : Nat) (a0_0 : Int) (a0_1 : Int) (a0_2 : Int) (a0_3 : Int) (a0_4 : Int) (a0_5 : Int) (a0_6 : Int) (a0_7 : Int) (a0_8 : Int) (a0_9 : Int) (a0_10 : Int) (a0_11 : Int) (a0_12 : Int) (a0_13 : Int) (a0_14 : Int) (a1 : Int) (h0 : List S72) (h1 : List Int) (h2 : List S111) (h3 : List S95) : Option (Int × (List S72) × (List Int) × (List S111) × (List S95)) := (laws_markPartRowS_o1.f k a1 h0).bind fun t1 => ((laws_markIntS_o1.f k t1.1 h1).bind fun t2 => ((laws_markChanRowS_o1.f k t2.1 h2).bind fun t3 => ((laws_markSlotS_o1.f k t3.1 h3).bind fun t4 => (some (t4.1, t1.2, t2.2, t3.2, t4.2)))))
def laws_markTables_o1.c : FnD := { f := 16, sh := false, ps := [.vc (.agg [.int .i64, .int .i64, .int .i64, .int .i64, .int .i64, .int .i64, .int .i64, .int .i64, .int .i64, .int .i64, .int .i64, .int .i64, .int .i64, .int .i64, .int .i64, .own 0, .own 1, .own 2, .own 3]), .c (.int .i64)], pb := [.arr T72 .un, .arr (.int .i64) .un, .arr T111 .un, .arr T95 .un], vc := .c (.int .i64), bs := [.arr T72 .un, .arr (.int .i64) .un, .arr T111 .un, .arr T95 .un], R := Int × (List S72) × (List Int) × (List S111) × (List S95), fn := fun k x y => laws_markTables_o1.f k x.1.1 x.1.2.1 x.1.2.2.1 x.1.2.2.2.1 x.1.2.2.2.2.1 x.1.2.2.2.2.2.1 x.1.2.2.2.2.2.2.1 x.1.2.2.2.2.2.2.2.1 x.1.2.2.2.2.2.2.2.2.1 x.1.2.2.2.2.2.2.2.2.2.1 x.1.2.2.2.2.2.2.2.2.2.2.1 x.1.2.2.2.2.2.2.2.2.2.2.2.1 x.1.2.2.2.2.2.2.2.2.2.2.2.2.1 x.1.2.2.2.2.2.2.2.2.2.2.2.2.2.1 x.1.2.2.2.2.2.2.2.2.2.2.2.2.2.2.1 x.2.1 y.1 y.2.1 y.2.2.1 y.2.2.2.1, out := fun y => (y.1, (y.2.1, y.2.2.1, y.2.2.2.1, y.2.2.2.2, ())), inn := fun d => (d.1, d.2.1, d.2.2.1, d.2.2.2.1, d.2.2.2.2.1), inv := fun _ => rfl }
theorem laws_markTables_o1.ok : laws_markTables_o1.c.OK Tryz.prog :=
  FnD.of laws_markTables_o1.c mix tok (fn := Tryz.f16) Tryz.func16 (by kernel_rfl) (fun _ _ => by kernel_rfl) (by kernel_rfl) (by kernel_rfl) [laws_markPartRowS_o1.c, laws_markIntS_o1.c, laws_markChanRowS_o1.c, laws_markSlotS_o1.c] ⟨laws_markPartRowS_o1.ok, ⟨laws_markIntS_o1.ok, ⟨laws_markChanRowS_o1.ok, ⟨laws_markSlotS_o1.ok, trivial⟩⟩⟩⟩
    [] { c := fun _ => none, cc := [], ms := [], tn := [], sh := false, fm := [] } rfl 5000 trivial (fun k x y => by kernel_rfl)

/-! ### loop.example/g00076/laws.markUint32S: function 17 -/
def laws_markUint32S_o1.l4 : Nat → Int → Int → (List Int) → Option (Int × (List Int))
  | 0, _, _, _ => none
  | k + 1, x1, x5, h0 => if x5 < (h0.length : Int) then (if 0 ≤ x5 then (if x5 < (h0.length : Int) then (laws_markUint32S_o1.l4 k (wrap64 (x1 + 1)) (wrap64 (x5 + 1)) (h0.set x5.toNat (IntKind.wrap .u32 (x1)))) else none) else none) else (some (x1, h0))
def laws_markUint32S_o1.f (k : Nat) (a1 : Int) (h0 : List Int) : Option (Int × (List Int)) := laws_markUint32S_o1.l4 k a1 0 h0
def laws_markUint32S_o1.c : FnD := { f := 17, sh := false, ps := [.vc (.c (.own 0)), .c (.int .i64)], pb := [.arr (.int .u32) .un], vc := .c (.int .i64), bs := [.arr (.int .u32) .un], R := Int × (List Int), fn := fun k x y => laws_markUint32S_o1.f k x.2.1 y.1, out := fun y => (y.1, (y.2, ())), inn := fun d => (d.1, d.2.1), inv := fun _ => rfl }
theorem laws_markUint32S_o1.ok : laws_markUint32S_o1.c.OK Tryz.prog :=
  FnD.of laws_markUint32S_o1.c mix tok (fn := Tryz.f17) Tryz.func17 (by kernel_rfl) (fun _ _ => by kernel_rfl) (by kernel_rfl) (by kernel_rfl) [] trivial
    [{ lbl := 4, live := [(0, none), (1, none), (5, none)], ms := [], vs := [.c (.own 0), .c (.int .i64), .c (.int .i64)], bs := [.arr (.int .u32) .un], f := fun k x y => laws_markUint32S_o1.l4 k x.2.1 x.2.2.1 y.1 }] { c := fun _ => none, cc := [], ms := [], tn := [], sh := false, fm := [] } rfl 5000 ⟨⟨fun _ _ => rfl, fun k x y => by kernel_rfl⟩, trivial⟩ (fun k x y => by kernel_rfl)

/-! ### loop.example/g00076/laws.markByteS: function 57 -/
def laws_markByteS_o1.l4 : Nat → Int → Int → (List Int) → Option (Int × (List Int))
  | 0, _, _, _ => none
  | k + 1, x1, x5, h0 => if x5 < (h0.length : Int) then (if 0 ≤ x5 then (if x5 < (h0.length : Int) then (laws_markByteS_o1.l4 k (wrap64 (x1 + 1)) (wrap64 (x5 + 1)) (h0.set x5.toNat (IntKind.wrap .u8 (x1)))) else none) else none) else (some (x1, h0))
def laws_markByteS_o1.f (k : Nat) (a1 : Int) (h0 : List Int) : Option (Int × (List Int)) := laws_markByteS_o1.l4 k a1 0 h0
def laws_markByteS_o1.c : FnD := { f := 57, sh := false, ps := [.vc (.c (.own 0)), .c (.int .i64)], pb := [.arr (.int .u8) .un], vc := .c (.int .i64), bs := [.arr (.int .u8) .un], R := Int × (List Int), fn := fun k x y => laws_markByteS_o1.f k x.2.1 y.1, out := fun y => (y.1, (y.2, ())), inn := fun d => (d.1, d.2.1), inv := fun _ => rfl }
theorem laws_markByteS_o1.ok : laws_markByteS_o1.c.OK Tryz.prog :=
  FnD.of laws_markByteS_o1.c mix tok (fn := Tryz.f57) Tryz.func57 (by kernel_rfl) (fun _ _ => by kernel_rfl) (by kernel_rfl) (by kernel_rfl) [] trivial
    [{ lbl := 4, live := [(0, none), (1, none), (5, none)], ms := [], vs := [.c (.own 0), .c (.int .i64), .c (.int .i64)], bs := [.arr (.int .u8) .un], f := fun k x y => laws_markByteS_o1.l4 k x.2.1 x.2.2.1 y.1 }] { c := fun _ => none, cc := [], ms := [], tn := [], sh := false, fm := [] } rfl 5000 ⟨⟨fun _ _ => rfl, fun k x y => by kernel_rfl⟩, trivial⟩ (fun k x y => by kernel_rfl)

/-! ### loop.example/g00076/laws.markByteSS: function 18 -/
def laws_markByteSS_o1.l4 : Nat → Int → Int → (List (List Int)) → Option (Int × (List (List Int)))
  | 0, _, _, _ => none
  | k + 1, x1, x5, h0 => if x5 < (h0.length : Int) then (if 0 ≤ x5 then (if x5 < (h0.length : Int) then ((laws_markByteS_o1.f k x1 (rd_ListInt h0 x5)).bind fun t1 => (laws_markByteSS_o1.l4 k t1.1 (wrap64 (x5 + 1)) (h0.set x5.toNat t1.2))) else none) else none) else (some (x1, h0))
def laws_markByteSS_o1.f (k : Nat) (a1 : Int) (h0 : List (List Int)) : Option (Int × (List (List Int))) := laws_markByteSS_o1.l4 k a1 0 h0
def laws_markByteSS_o1.c : FnD := { f := 18, sh := false, ps := [.vc (.c (.own 0)), .c (.int .i64)], pb := [.arr (.sl (.int .u8)) .un], vc := .c (.int .i64), bs := [.arr (.sl (.int .u8)) .un], R := Int × (List (List Int)), fn := fun k x y => laws_markByteSS_o1.f k x.2.1 y.1, out := fun y => (y.1, (y.2, ())), inn := fun d => (d.1, d.2.1), inv := fun _ => rfl }
theorem laws_markByteSS_o1.ok : laws_markByteSS_o1.c.OK Tryz.prog :=
  FnD.of laws_markByteSS_o1.c mix tok (fn := Tryz.f18) Tryz.func18 (by kernel_rfl) (fun _ _ => by kernel_rfl) (by kernel_rfl) (by kernel_rfl) [laws_markByteS_o1.c] ⟨laws_markByteS_o1.ok, trivial⟩
    [{ lbl := 4, live := [(0, none), (1, none), (5, none)], ms := [], vs := [.c (.own 0), .c (.int .i64), .c (.int .i64)], bs := [.arr (.sl (.int .u8)) .un], f := fun k x y => laws_markByteSS_o1.l4 k x.2.1 x.2.2.1 y.1 }] { c := fun _ => none, cc := [], ms := [], tn := [], sh := false, fm := [] } rfl 5000 ⟨⟨fun _ _ => rfl, fun k x y => by kernel_rfl⟩, trivial⟩ (fun k x y => by kernel_rfl)

/-! ### loop.example/g00076/laws.heldByteS: function 58 -/
def laws_heldByteS.l4 : Nat → (List Int) → Int → Int → Option (Int)
  | 0, _, _, _ => none
  | k + 1, x0, x1, x5 => if x5 < (x0.length : Int) then (if 0 ≤ x5 then (if x5 < (x0.length : Int) then (if (rd x0 x5) = (IntKind.wrap .u8 (x1)) then (laws_heldByteS.l4 k x0 (wrap64 (x1 + 1)) (wrap64 (x5 + 1))) else (some (-1))) else none) else none) else (some x1)
def laws_heldByteS.f (k : Nat) (a0 : List Int) (a1 : Int) : Option (Int) := laws_heldByteS.l4 k a0 a1 0
def laws_heldByteS.c : FnD := { f := 58, sh := false, ps := [.c (.sl (.int .u8)), .c (.int .i64)], pb := [], vc := .c (.int .i64), bs := [], R := Int, fn := fun k x y => laws_heldByteS.f k x.1 x.2.1, out := fun y => (y, ()), inn := fun d => d.1, inv := fun _ => rfl }
theorem laws_heldByteS.ok : laws_heldByteS.c.OK Tryz.prog :=
  FnD.of laws_heldByteS.c mix tok (fn := Tryz.f58) Tryz.func58 (by kernel_rfl) (fun _ _ => by kernel_rfl) (by kernel_rfl) (by kernel_rfl) [] trivial
    [{ lbl := 4, live := [(0, none), (1, none), (5, none)], ms := [], vs := [.c (.sl false (.int .u8)), .c (.int .i64), .c (.int .i64)], bs := [], f := fun k x y => laws_heldByteS.l4 k x.1 x.2.1 x.2.2.1 }] { c := fun _ => none, cc := [], ms := [], tn := [], sh := false, fm := [] } rfl 5000 ⟨⟨fun _ _ => rfl, fun k x y => by kernel_rfl⟩, trivial⟩ (fun k x y => by kernel_rfl)

/-! ### loop.example/g00076/laws.heldByteSS: function 19 -/
def laws_heldByteSS.l4 : Nat → (List (List Int)) → Int → Int → Option (Int)
  | 0, _, _, _ => none
  | k + 1, x0, x1, x5 => if x5 < (x0.length : Int) then (if 0 ≤ x5 then (if x5 < (x0.length : Int) then ((laws_heldByteS.f k (rd_ListInt x0 x5) x1).bind fun t1 => (if t1 < 0 then (some (-1)) else (laws_heldByteSS.l4 k x0 t1 (wrap64 (x5 + 1))))) else none) else none) else (some x1)
def laws_heldByteSS.f (k : Nat) (a0 : List (List Int)) (a1 : Int) : Option (Int) := laws_heldByteSS.l4 k a0 a1 0
def laws_heldByteSS.c : FnD := { f := 19, sh := false, ps := [.c (.sl (.sl (.int .u8))), .c (.int .i64)], pb := [], vc := .c (.int .i64), bs := [], R := Int, fn := fun k x y => laws_heldByteSS.f k x.1 x.2.1, out := fun y => (y, ()), inn := fun d => d.1, inv := fun _ => rfl }
theorem laws_heldByteSS.ok : laws_heldByteSS.c.OK Tryz.prog :=
  FnD.of laws_heldByteSS.c mix tok (fn := Tryz.f19) Tryz.func19 (by kernel_rfl) (fun _ _ => by kernel_rfl) (by kernel_rfl) (by kernel_rfl) [laws_heldByteS.c] ⟨laws_heldByteS.ok, trivial⟩
    [{ lbl := 4, live := [(0, none), (1, none), (5, none)], ms := [], vs := [.c (.sl false (.sl (.int .u8))), .c (.int .i64), .c (.int .i64)], bs := [], f := fun k x y => laws_heldByteSS.l4 k x.1 x.2.1 x.2.2.1 }] { c := fun _ => none, cc := [], ms := [], tn := [], sh := false, fm := [] } rfl 5000 ⟨⟨fun _ _ => rfl, fun k x y => by kernel_rfl⟩, trivial⟩ (fun k x y => by kernel_rfl)

/-! ### loop.example/g00076/laws.FnExactLoadImage: function 3 -/
def laws_FnExactLoadImage.f (k : Nat) (a0 : S31) (a1 : Int) (a2 : List Int) : Option (Bool) := if (lenZ a2) > 1048576 then (some true) else ((laws_szTables.f k a0 1048576).bind fun t1 => (if t1 < 0 then (some true) else ((laws_toTables.f k a0).bind fun t2 => ((laws_toUint32S.f k a2).bind fun t3 => ((spec_LoadImage.f k t2 a1 t3).bind fun t4 => ((laws_toTables.f k a0).bind fun t5 => ((laws_toUint32S.f k a2).bind fun t6 => ((impl_LoadImage.f k t5 a1 t6).bind fun t7 => ((laws_eqByteSS.f k t7.1 t4.1).bind fun t8 => (if t8 = true then (if (t7.2 == t4.2) = true then ((laws_toTables.f k a0).bind fun t9 => ((laws_eqTables.f k t5 t9).bind fun t10 => (if t10 = true then ((laws_toUint32S.f k a2).bind fun t11 => ((laws_eqUint32S.f k t6 t11).bind fun t12 => (if t12 = true then ((laws_markTables_o1.f k t5.f0 t5.f1.f0 t5.f1.f1 t5.f1.f2 t5.f2 t5.f3.f0 t5.f3.f1 t5.f3.f2 t5.f3.f3 t5.f3.f4 t5.f3.f5 t5.f3.f6 t5.f4 t5.f5 t5.f6 1 t5.f7 t5.f8 t5.f9 t5.f10).bind fun t13 => ((laws_markUint32S_o1.f k t13.1 t6).bind fun t14 => (if t14.1 < 0 then (some false) else ((laws_eqByteSS.f k t7.1 t4.1).bind fun t15 => (if t15 = true then (if (t7.2 == t4.2) = true then ((laws_markByteSS_o1.f k 1 t7.1).bind fun t16 => ((laws_heldByteSS.f k t16.2 1).bind fun t17 => (if t17 < 0 then (some false) else (if t17 = t16.1 then ((laws_toTables.f k a0).bind fun t18 => ((laws_toUint32S.f k a2).bind fun t19 => ((impl_LoadImage.f k t18 a1 t19).bind fun t20 => ((laws_eqByteSS.f k t20.1 t4.1).bind fun t21 => (if t21 = true then (if (t20.2 == t4.2) = true then ((laws_heldByteSS.f k t16.2 1).bind fun t22 => (if t22 < 0 then (some false) else (if t22 = t16.1 then (some true) else (some false)))) else (some false)) else (some false)))))) else (some false))))) else (some false)) else (some false)))))) else (some false)))) else (some false)))) else (some false)) else (some false)))))))))))
def laws_FnExactLoadImage.c : FnD := { f := 3, sh := false, ps := [.agg T31, .c (.int .i64), .c (.sl (.int .u32))], pb := [], vc := .c (.bool), bs := [], R := Bool, fn := fun k x y => laws_FnExactLoadImage.f k x.1 x.2.1 x.2.2.1, out := fun y => (y, ()), inn := fun d => d.1, inv := fun _ => rfl }
theorem laws_FnExactLoadImage.ok : laws_FnExactLoadImage.c.OK Tryz.prog :=
  FnD.of laws_FnExactLoadImage.c mix tok (fn := Tryz.f3) Tryz.func3 (by kernel_rfl) (fun _ _ => by kernel_rfl) (by kernel_rfl) (by kernel_rfl) [laws_markTables_o1.c, laws_markUint32S_o1.c, laws_markByteSS_o1.c, laws_szTables.c, laws_toTables.c, laws_toUint32S.c, spec_LoadImage.c, impl_LoadImage.c, laws_eqByteSS.c, laws_eqTables.c, laws_eqUint32S.c, laws_heldByteSS.c] ⟨laws_markTables_o1.ok, ⟨laws_markUint32S_o1.ok, ⟨laws_markByteSS_o1.ok, ⟨laws_szTables.ok, ⟨laws_toTables.ok, ⟨laws_toUint32S.ok, ⟨spec_LoadImage.ok, ⟨impl_LoadImage.ok, ⟨laws_eqByteSS.ok, ⟨laws_eqTables.ok, ⟨laws_eqUint32S.ok, ⟨laws_heldByteSS.ok, trivial⟩⟩⟩⟩⟩⟩⟩⟩⟩⟩⟩⟩
    [] { c := fun _ => none, cc := [], ms := [], tn := [], sh := false, fm := [] } rfl 5000 trivial (fun k x y => by kernel_rfl)

end
end Go.Proofs.YtfmbebgpbgcpeaaGreat.PLi
