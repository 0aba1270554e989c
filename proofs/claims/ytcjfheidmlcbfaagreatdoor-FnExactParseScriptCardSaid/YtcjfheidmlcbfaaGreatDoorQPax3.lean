/- Go functions as Lean functions, each with its contract. -/
import Derived.Test.YtcjfheidmlcbfaaGreatDoorQPax2
set_option linter.unusedVariables false
set_option maxRecDepth 100000
namespace Go.Proofs.YtcjfheidmlcbfaaGreatDoor.PPa
open Go Go.Proofs Go.RowKit Go.Proofs.YtcjfheidmlcbfaaGreatDoor.V
noncomputable section
/-! ### loop.example/g00076/impl.isChan: function 79 -/
def impl_isChan.f (a0 : S77) : Option (Bool) := (impl_within.f a0.f1 0 5).bind fun t1 => (if t1 = true then ((impl_within.f a0.f2 0 5).bind fun t2 => (if t2 = true then (if a0.f1 = a0.f2 then (some false) else (if a0.f0 = 0 then (if a0.f3 = 0 then (some true) else (if a0.f0 = 1 then ((impl_within.f a0.f3 1 8).bind fun t3 => (some t3)) else (some false))) else (if a0.f0 = 1 then ((impl_within.f a0.f3 1 8).bind fun t4 => (some t4)) else (some false)))) else (some false))) else (some false))
def impl_isChan.c : FnD := { f := 79, sh := false, ps := [.agg T77], pb := [], vc := .c (.bool), bs := [], R := Bool, fn := fun _ x y => impl_isChan.f x.1, out := fun y => (y, ()), inn := fun d => d.1, inv := fun _ => rfl }
theorem impl_isChan.ok : impl_isChan.c.OK Tryz.prog :=
  FnD.of impl_isChan.c mix tok (fn := Tryz.f79) Tryz.func79 (by kernel_rfl) (fun _ _ => by kernel_rfl) (by kernel_rfl) (by kernel_rfl) [impl_within.c] ⟨impl_within.ok, trivial⟩
    [] { c := fun _ => none, cc := [], ms := [], tn := [], sh := false, fm := [] } rfl 5000 trivial (fun k x y => by kernel_rfl)

/-! ### loop.example/g00076/impl.isSound$2: function 78 -/
def impl_isSound_2.f (a0 : S77) (c1 : Int) : Option (Bool) := (impl_isChan.f a0).bind fun t1 => (if t1 = true then (if a0.f1 ≥ c1 then (some true) else (some (decide (a0.f2 ≥ c1)))) else (some true))
def impl_isSound_2.c : FnD := { f := 78, sh := false, ps := [.agg T77, .cap (.int .i64)], pb := [], vc := .c (.bool), bs := [], R := Bool, fn := fun _ x y => impl_isSound_2.f x.1 x.2.1, out := fun y => (y, ()), inn := fun d => d.1, inv := fun _ => rfl }
theorem impl_isSound_2.ok : impl_isSound_2.c.OK Tryz.prog :=
  FnD.of impl_isSound_2.c mix tok (fn := Tryz.f78) Tryz.func78 (by kernel_rfl) (fun _ _ => by kernel_rfl) (by kernel_rfl) (by kernel_rfl) [impl_isChan.c] ⟨impl_isChan.ok, trivial⟩
    [] { c := fun _ => none, cc := [], ms := [], tn := [], sh := false, fm := [] } rfl 5000 trivial (fun k x y => by kernel_rfl)

/-! ### slices.IndexFunc[[]loop.example/g00076/impl.ChanRow,loop.example/g00076/impl.ChanRow]: function 127 -/
def slices_IndexFunc_127_78.l4 : Nat → (List S77) → Int → Int → Int → Option (Int)
  | 0, _, _, _, _ => none
  | k + 1, x0, x1_0, x7, x8 => if x8 < x7 then (if 0 ≤ x8 then (if x8 < (x0.length : Int) then ((impl_isSound_2.f (rd_T77 x0 x8) x1_0).bind fun t1 => (if t1 = true then (some x8) else (slices_IndexFunc_127_78.l4 k x0 x1_0 x7 (wrap64 (x8 + 1))))) else none) else none) else (some (-1))
def slices_IndexFunc_127_78.f (k : Nat) (a0 : List S77) (p1_0 : Int) : Option (Int) := slices_IndexFunc_127_78.l4 k a0 p1_0 (a0.length : Int) 0
def slices_IndexFunc_127_78.c : FnD := { f := 127, sh := false, ps := [.c (.sl T77), .fn 78 [(.int .i64)]], pb := [], vc := .c (.int .i64), bs := [], R := Int, fn := fun k x y => slices_IndexFunc_127_78.f k x.1 x.2.1.1, out := fun y => (y, ()), inn := fun d => d.1, inv := fun _ => rfl }
theorem slices_IndexFunc_127_78.ok : slices_IndexFunc_127_78.c.OK Tryz.prog :=
  FnD.of slices_IndexFunc_127_78.c mix tok (fn := Tryz.f127) Tryz.func127 (by kernel_rfl) (fun _ _ => by kernel_rfl) (by kernel_rfl) (by kernel_rfl) [impl_isSound_2.c] ⟨impl_isSound_2.ok, trivial⟩
    [{ lbl := 4, live := [(0, none), (1, none), (7, none), (8, none)], ms := [], vs := [.c (.sl false T77), .c (.fn 78 [(.int .i64)]), .c (.int .i64), .c (.int .i64)], bs := [], f := fun k x y => slices_IndexFunc_127_78.l4 k x.1 x.2.1.1 x.2.2.1 x.2.2.2.1 }] { c := fun _ => none, cc := [], ms := [], tn := [], sh := false, fm := [] } rfl 5000 ⟨⟨fun _ _ => rfl, fun k x y => by kernel_rfl⟩, trivial⟩ (fun k x y => by kernel_rfl)

/-! ### slices.ContainsFunc[[]loop.example/g00076/impl.ChanRow,loop.example/g00076/impl.ChanRow]: function 77 -/
def slices_ContainsFunc_77_78.f (k : Nat) (a0 : List S77) (p1_0 : Int) : Option (Bool) := (slices_IndexFunc_127_78.f k a0 p1_0).bind fun t1 => (some (decide (t1 ≥ 0)))
def slices_ContainsFunc_77_78.c : FnD := { f := 77, sh := false, ps := [.c (.sl T77), .fn 78 [(.int .i64)]], pb := [], vc := .c (.bool), bs := [], R := Bool, fn := fun k x y => slices_ContainsFunc_77_78.f k x.1 x.2.1.1, out := fun y => (y, ()), inn := fun d => d.1, inv := fun _ => rfl }
theorem slices_ContainsFunc_77_78.ok : slices_ContainsFunc_77_78.c.OK Tryz.prog :=
  FnD.of slices_ContainsFunc_77_78.c mix tok (fn := Tryz.f77) Tryz.func77 (by kernel_rfl) (fun _ _ => by kernel_rfl) (by kernel_rfl) (by kernel_rfl) [slices_IndexFunc_127_78.c] ⟨slices_IndexFunc_127_78.ok, trivial⟩
    [] { c := fun _ => none, cc := [], ms := [], tn := [], sh := false, fm := [] } rfl 5000 trivial (fun k x y => by kernel_rfl)

/-! ### loop.example/g00076/impl.depthOf: function 128 -/
def impl_depthOf.f (a0 : S77) : Option (Int) := some (mx 1 a0.f3)
def impl_depthOf.c : FnD := { f := 128, sh := false, ps := [.agg T77], pb := [], vc := .c (.int .i64), bs := [], R := Int, fn := fun _ x y => impl_depthOf.f x.1, out := fun y => (y, ()), inn := fun d => d.1, inv := fun _ => rfl }
theorem impl_depthOf.ok : impl_depthOf.c.OK Tryz.prog :=
  FnD.of impl_depthOf.c mix tok (fn := Tryz.f128) Tryz.func128 (by kernel_rfl) (fun _ _ => by kernel_rfl) (by kernel_rfl) (by kernel_rfl) [] trivial
    [] { c := fun _ => none, cc := [], ms := [], tn := [], sh := false, fm := [] } rfl 5000 trivial (fun k x y => by kernel_rfl)

/-! ### loop.example/g00076/impl.worstPad: function 80 -/
def impl_worstPad.l6 : Nat → Int → (List S77) → Int → Int → S27 → Option (Int)
  | 0, _, _, _, _, _ => none
  | k + 1, x7, x22, x23, x24, y0 => if x24 < x23 then (if 0 ≤ x24 then (if x24 < (x22.length : Int) then ((impl_depthOf.f (rd_T77 x22 x24)).bind fun t1 => (impl_worstPad.l6 k (wrap64 (x7 + (wrap64 (y0.f0 * t1)))) x22 x23 (wrap64 (x24 + 1)) y0)) else none) else none) else (some x7)
def impl_worstPad.f (k : Nat) (a0 : S27) (a1 : S25) (a2 : List S77) : Option (Int) := impl_worstPad.l6 k (wrap64 ((wrap64 (16 * a0.f0)) + (wrap64 ((wrap64 (a1.f0 * a1.f1)) * a0.f6)))) a2 (a2.length : Int) 0 a0
def impl_worstPad.c : FnD := { f := 80, sh := false, ps := [.agg T27, .agg T25, .c (.sl T77)], pb := [], vc := .c (.int .i64), bs := [], R := Int, fn := fun k x y => impl_worstPad.f k x.1 x.2.1 x.2.2.1, out := fun y => (y, ()), inn := fun d => d.1, inv := fun _ => rfl }
theorem impl_worstPad.ok : impl_worstPad.c.OK Tryz.prog :=
  FnD.of impl_worstPad.c mix tok (fn := Tryz.f80) Tryz.func80 (by kernel_rfl) (fun _ _ => by kernel_rfl) (by kernel_rfl) (by kernel_rfl) [impl_depthOf.c] ⟨impl_depthOf.ok, trivial⟩
    [{ lbl := 6, live := [(3, none), (7, none), (22, none), (23, none), (24, none)], ms := [], vs := [.c (.ptr 0 0), .c (.int .i64), .c (.sl false T77), .c (.int .i64), .c (.int .i64)], bs := [.cells 27 [.int .i64, .int .i64, .int .i64, .int .i64, .int .i64, .int .i64, .int .i64]], f := fun k x y => impl_worstPad.l6 k x.2.1 x.2.2.1 x.2.2.2.1 x.2.2.2.2.1 (y.1.1, y.1.2.1, y.1.2.2.1, y.1.2.2.2.1, y.1.2.2.2.2.1, y.1.2.2.2.2.2.1, y.1.2.2.2.2.2.2.1) }] { c := fun _ => none, cc := [], ms := [], tn := [], sh := false, fm := [] } rfl 5000 ⟨⟨fun _ _ => rfl, fun k x y => by kernel_rfl⟩, trivial⟩ (fun k x y => by kernel_rfl)

/-! ### loop.example/g00076/impl.isSlotAt: function 129 -/
def impl_isSlotAt.f (a0 : S33) (a1 : S182) (a2 : Int) : Option (Bool) := if a1.f2 > (wrap64 (a0.f4 + a0.f5)) then (if a1.f2 ≤ a0.f6 then (if a1.f1 ≥ a2 then (some (decide (a1.f1 ≤ (wrap64 (a0.f6 - a1.f2))))) else (some false)) else (some false)) else (some false)
def impl_isSlotAt.c : FnD := { f := 129, sh := false, ps := [.agg T33, .agg T182, .c (.int .i64)], pb := [], vc := .c (.bool), bs := [], R := Bool, fn := fun _ x y => impl_isSlotAt.f x.1 x.2.1 x.2.2.1, out := fun y => (y, ()), inn := fun d => d.1, inv := fun _ => rfl }
theorem impl_isSlotAt.ok : impl_isSlotAt.c.OK Tryz.prog :=
  FnD.of impl_isSlotAt.c mix tok (fn := Tryz.f129) Tryz.func129 (by kernel_rfl) (fun _ _ => by kernel_rfl) (by kernel_rfl) (by kernel_rfl) [] trivial
    [] { c := fun _ => none, cc := [], ms := [], tn := [], sh := false, fm := [] } rfl 5000 trivial (fun k x y => by kernel_rfl)

/-! ### loop.example/g00076/impl.areSlots: function 81 -/
def impl_areSlots.l6 : Nat → Int → (List S182) → Int → Int → S33 → Option (Bool)
  | 0, _, _, _, _, _ => none
  | k + 1, x3, x7, x8, x9, y0 => if x9 < x8 then (if 0 ≤ x9 then (if x9 < (x7.length : Int) then ((impl_within.f ((rd_T182 x7 x9).f0) 0 (wrap64 ((y0.f7.length : Int) - 1))).bind fun t1 => (if t1 = true then ((impl_isSlotAt.f y0 (rd_T182 x7 x9) x3).bind fun t2 => (if t2 = true then (impl_areSlots.l6 k (wrap64 (((rd_T182 x7 x9).f1) + ((rd_T182 x7 x9).f2))) x7 x8 (wrap64 (x9 + 1)) y0) else (some false))) else (some false))) else none) else none) else ((impl_within.f (y0.f10.length : Int) 1 16).bind fun t3 => (some t3))
def impl_areSlots.f (k : Nat) (a0 : S33) : Option (Bool) := impl_areSlots.l6 k 0 a0.f10 (a0.f10.length : Int) 0 a0
def impl_areSlots.c : FnD := { f := 81, sh := false, ps := [.agg T33], pb := [], vc := .c (.bool), bs := [], R := Bool, fn := fun k x y => impl_areSlots.f k x.1, out := fun y => (y, ()), inn := fun d => d.1, inv := fun _ => rfl }
theorem impl_areSlots.ok : impl_areSlots.c.OK Tryz.prog :=
  FnD.of impl_areSlots.c mix tok (fn := Tryz.f81) Tryz.func81 (by kernel_rfl) (fun _ _ => by kernel_rfl) (by kernel_rfl) (by kernel_rfl) [impl_within.c, impl_isSlotAt.c] ⟨impl_within.ok, ⟨impl_isSlotAt.ok, trivial⟩⟩
    [{ lbl := 6, live := [(1, none), (3, none), (7, none), (8, none), (9, none)], ms := [], vs := [.c (.ptr 0 0), .c (.int .i64), .c (.sl false T182), .c (.int .i64), .c (.int .i64)], bs := [.cells 33 [.int .i64, .int .i64, .int .i64, .int .i64, .int .i64, .int .i64, .int .i64, .int .i64, .int .i64, .int .i64, .int .i64, .int .i64, .int .i64, .int .i64, .int .i64, .sl false T71, .sl false (.int .i64), .sl false T77, .sl false T182]], f := fun k x y => impl_areSlots.l6 k x.2.1 x.2.2.1 x.2.2.2.1 x.2.2.2.2.1 (y.1.1, (y.1.2.1, y.1.2.2.1, y.1.2.2.2.1), y.1.2.2.2.2.1, (y.1.2.2.2.2.2.1, y.1.2.2.2.2.2.2.1, y.1.2.2.2.2.2.2.2.1, y.1.2.2.2.2.2.2.2.2.1, y.1.2.2.2.2.2.2.2.2.2.1, y.1.2.2.2.2.2.2.2.2.2.2.1, y.1.2.2.2.2.2.2.2.2.2.2.2.1), y.1.2.2.2.2.2.2.2.2.2.2.2.2.1, y.1.2.2.2.2.2.2.2.2.2.2.2.2.2.1, y.1.2.2.2.2.2.2.2.2.2.2.2.2.2.2.1, y.1.2.2.2.2.2.2.2.2.2.2.2.2.2.2.2.1, y.1.2.2.2.2.2.2.2.2.2.2.2.2.2.2.2.2.1, y.1.2.2.2.2.2.2.2.2.2.2.2.2.2.2.2.2.2.1, y.1.2.2.2.2.2.2.2.2.2.2.2.2.2.2.2.2.2.2.1) }] { c := fun _ => none, cc := [], ms := [], tn := [], sh := false, fm := [] } rfl 5000 ⟨⟨fun _ _ => rfl, fun k x y => by kernel_rfl⟩, trivial⟩ (fun k x y => by kernel_rfl)

/-! ### loop.example/g00076/impl.isSound: function 25 -/
def impl_isSound.f (k : Nat) (a0 : S33) : Option (Bool) := (impl_isMem.f a0.f0).bind fun t1 => (if t1 = true then ((impl_isShape.f a0.f1).bind fun t2 => (if t2 = true then ((impl_within.f a0.f2 1 8).bind fun t3 => (if t3 = true then ((impl_areCosts.f k a0.f3).bind fun t4 => (if t4 = true then ((impl_isSpan.f a0.f4).bind fun t5 => (if t5 = true then ((impl_isSpan.f a0.f5).bind fun t6 => (if t6 = true then ((impl_isSpan.f a0.f6).bind fun t7 => (if t7 = true then ((impl_worstStep.f k a0.f3).bind fun t8 => (if a0.f5 < t8 then (some false) else ((impl_within.f (a0.f7.length : Int) 1 6).bind fun t9 => (if t9 = true then ((impl_areParts.f k a0).bind fun t10 => (if t10 = true then (if (a0.f8.length : Int) > 8 then (some false) else ((slices_ContainsFunc_75_76.f k a0.f8 (a0.f7.length : Int)).bind fun t11 => (if t11 = true then (some false) else (if (a0.f9.length : Int) > 8 then (some false) else ((slices_ContainsFunc_77_78.f k a0.f9 (a0.f7.length : Int)).bind fun t12 => (if t12 = true then (some false) else ((impl_worstPad.f k a0.f3 a0.f1 a0.f9).bind fun t13 => (if a0.f4 < t13 then (some false) else ((impl_areSlots.f k a0).bind fun t14 => (some t14)))))))))) else (some false))) else (some false))))) else (some false))) else (some false))) else (some false))) else (some false))) else (some false))) else (some false))) else (some false))
def impl_isSound.c : FnD := { f := 25, sh := false, ps := [.agg T33], pb := [], vc := .c (.bool), bs := [], R := Bool, fn := fun k x y => impl_isSound.f k x.1, out := fun y => (y, ()), inn := fun d => d.1, inv := fun _ => rfl }
theorem impl_isSound.ok : impl_isSound.c.OK Tryz.prog :=
  FnD.of impl_isSound.c mix tok (fn := Tryz.f25) Tryz.func25 (by kernel_rfl) (fun _ _ => by kernel_rfl) (by kernel_rfl) (by kernel_rfl) [impl_isMem.c, impl_isShape.c, impl_within.c, impl_areCosts.c, impl_isSpan.c, impl_worstStep.c, impl_areParts.c, slices_ContainsFunc_75_76.c, slices_ContainsFunc_77_78.c, impl_worstPad.c, impl_areSlots.c] ⟨impl_isMem.ok, ⟨impl_isShape.ok, ⟨impl_within.ok, ⟨impl_areCosts.ok, ⟨impl_isSpan.ok, ⟨impl_worstStep.ok, ⟨impl_areParts.ok, ⟨slices_ContainsFunc_75_76.ok, ⟨slices_ContainsFunc_77_78.ok, ⟨impl_worstPad.ok, ⟨impl_areSlots.ok, trivial⟩⟩⟩⟩⟩⟩⟩⟩⟩⟩⟩
    [] { c := fun _ => none, cc := [], ms := [], tn := [], sh := false, fm := [] } rfl 5000 trivial (fun k x y => by kernel_rfl)

/-! ### strings.Split: function 40 (by hand) -/
noncomputable def strings_Split.f (a0 : ByteArray) (a1 : ByteArray) : Option ((List ByteArray)) := splitF a0 a1
noncomputable abbrev strings_Split.c : FnD := splitC
theorem strings_Split.ok : strings_Split.c.OK Tryz.prog := splitC_ok

/-! ### internal/stringslite.HasSuffix: function 144 -/
def stringslite_HasSuffix.f (a0 : ByteArray) (a1 : ByteArray) : Option (Bool) := if (a0.size : Int) ≥ (a1.size : Int) then (if 0 ≤ (wrap64 ((a0.size : Int) - (a1.size : Int))) then (if (wrap64 ((a0.size : Int) - (a1.size : Int))) ≤ (a0.size : Int) then (if (a0.size : Int) ≤ (a0.size : Int) then (some (decide ((a0.extract (wrap64 ((a0.size : Int) - (a1.size : Int))).toNat (a0.size : Int).toNat) = a1))) else none) else none) else none) else (some false)
def stringslite_HasSuffix.c : FnD := { f := 144, sh := false, ps := [.c .str, .c .str], pb := [], vc := .c (.bool), bs := [], R := Bool, fn := fun _ x y => stringslite_HasSuffix.f x.1 x.2.1, out := fun y => (y, ()), inn := fun d => d.1, inv := fun _ => rfl }
theorem stringslite_HasSuffix.ok : stringslite_HasSuffix.c.OK Tryz.prog :=
  FnD.of stringslite_HasSuffix.c mix tok (fn := Tryz.f144) Tryz.func144 (by kernel_rfl) (fun _ _ => by kernel_rfl) (by kernel_rfl) (by kernel_rfl) [] trivial
    [] { c := fun _ => none, cc := [], ms := [], tn := [], sh := false, fm := [] } rfl 5000 trivial (fun k x y => by kernel_rfl)

/-! ### strings.HasSuffix: function 95 -/
def strings_HasSuffix.f (a0 : ByteArray) (a1 : ByteArray) : Option (Bool) := (stringslite_HasSuffix.f a0 a1).bind fun t1 => (some t1)
def strings_HasSuffix.c : FnD := { f := 95, sh := false, ps := [.c .str, .c .str], pb := [], vc := .c (.bool), bs := [], R := Bool, fn := fun _ x y => strings_HasSuffix.f x.1 x.2.1, out := fun y => (y, ()), inn := fun d => d.1, inv := fun _ => rfl }
theorem strings_HasSuffix.ok : strings_HasSuffix.c.OK Tryz.prog :=
  FnD.of strings_HasSuffix.c mix tok (fn := Tryz.f95) Tryz.func95 (by kernel_rfl) (fun _ _ => by kernel_rfl) (by kernel_rfl) (by kernel_rfl) [stringslite_HasSuffix.c] ⟨stringslite_HasSuffix.ok, trivial⟩
    [] { c := fun _ => none, cc := [], ms := [], tn := [], sh := false, fm := [] } rfl 5000 trivial (fun k x y => by kernel_rfl)

/-! ### loop.example/g00076/impl.linesOf: function 38 -/
def impl_linesOf.f (a0 : ByteArray) : Option ((List ByteArray) × Bool) := if (a0.size : Int) > 20000 then (some (([] : List ByteArray), false)) else (if a0 = (ByteArray.mk #[]) then ((strings_Split.f a0 (ByteArray.mk #[10])).bind fun t1 => (if (0 : Int) ≤ (wrap64 ((t1.length : Int) - 1)) then (if (wrap64 ((t1.length : Int) - 1)) ≤ (t1.length : Int) then (some (((t1.take (wrap64 ((t1.length : Int) - 1)).toNat).drop (0 : Int).toNat), (decide ((((t1.take (wrap64 ((t1.length : Int) - 1)).toNat).drop (0 : Int).toNat).length : Int) ≤ 600)))) else none) else none)) else ((strings_HasSuffix.f a0 (ByteArray.mk #[10])).bind fun t2 => (if t2 = true then ((strings_Split.f a0 (ByteArray.mk #[10])).bind fun t3 => (if (0 : Int) ≤ (wrap64 ((t3.length : Int) - 1)) then (if (wrap64 ((t3.length : Int) - 1)) ≤ (t3.length : Int) then (some (((t3.take (wrap64 ((t3.length : Int) - 1)).toNat).drop (0 : Int).toNat), (decide ((((t3.take (wrap64 ((t3.length : Int) - 1)).toNat).drop (0 : Int).toNat).length : Int) ≤ 600)))) else none) else none)) else (some (([] : List ByteArray), false)))))
def impl_linesOf.c : FnD := { f := 38, sh := false, ps := [.c .str], pb := [], vc := .tup [(false, [.sl true .str]), (false, [.bool])], bs := [], R := (List ByteArray) × Bool, fn := fun _ x y => impl_linesOf.f x.1, out := fun y => (((y.1, ()), (y.2, ()), ()), ()), inn := fun d => (d.1.1.1, d.1.2.1.1), inv := fun _ => rfl }
theorem impl_linesOf.ok : impl_linesOf.c.OK Tryz.prog :=
  FnD.of impl_linesOf.c mix tok (fn := Tryz.f38) Tryz.func38 (by kernel_rfl) (fun _ _ => by kernel_rfl) (by kernel_rfl) (by kernel_rfl) [strings_Split.c, strings_HasSuffix.c] ⟨strings_Split.ok, ⟨strings_HasSuffix.ok, trivial⟩⟩
    [] { c := fun n => bif Nat.beq n 0 then some (.data true .str) else  none, cc := [], ms := [], tn := [], sh := false, fm := [] } rfl 5000 trivial (fun k x y => by kernel_rfl)

/-! ### loop.example/g00076/impl.DecNum: function 96 (by hand) -/
noncomputable def impl_DecNum.f (a0 : ByteArray) (a1 : Int) : Option (Int × Bool) := decNumF a0 a1
noncomputable abbrev impl_DecNum.c : FnD := decNumC
theorem impl_DecNum.ok : impl_DecNum.c.OK Tryz.prog := decNumC_ok

/-! ### loop.example/g00076/impl.readCmd: function 39 -/
def impl_readCmd.f (k : Nat) (a0 : S33) (a1 : List ByteArray) : Option (S85 × Int) := if 0 < (a1.length : Int) then (if (a1.getD 0 ByteArray.empty) = (ByteArray.mk #[114, 117, 110]) then (if (a1.length : Int) = 2 then (if 1 < (a1.length : Int) then ((impl_DecNum.f (a1.getD 1 ByteArray.empty) 50000).bind fun t1 => (if t1.2 = true then (if t1.1 ≥ 0 then (some ((⟨0, t1.1, 0⟩ : S85), 0)) else (some ((⟨0, 0, 0⟩ : S85), 2))) else (some ((⟨0, 0, 0⟩ : S85), 2)))) else none) else (if 0 < (a1.length : Int) then (if (a1.getD 0 ByteArray.empty) = (ByteArray.mk #[105, 110, 112, 117, 116]) then (if (a1.length : Int) = 3 then (if 1 < (a1.length : Int) then ((impl_DecNum.f (a1.getD 1 ByteArray.empty) 7).bind fun t2 => (if 2 < (a1.length : Int) then ((impl_DecNum.f (a1.getD 2 ByteArray.empty) 4294967295).bind fun t3 => (if t2.2 = true then (if t3.2 = true then (if t2.1 ≥ 0 then (if t3.1 ≥ 0 then (some ((⟨1, t2.1, (IntKind.wrap .u32 (t3.1))⟩ : S85), 0)) else (some ((⟨0, 0, 0⟩ : S85), 2))) else (some ((⟨0, 0, 0⟩ : S85), 2))) else (some ((⟨0, 0, 0⟩ : S85), 2))) else (some ((⟨0, 0, 0⟩ : S85), 2)))) else none)) else none) else (if 0 < (a1.length : Int) then (if (a1.getD 0 ByteArray.empty) = (ByteArray.mk #[114, 101, 115, 116, 97, 114, 116]) then (if (a1.length : Int) = 2 then (if 1 < (a1.length : Int) then ((impl_partNamed.f k a0 (a1.getD 1 ByteArray.empty)).bind fun t4 => (if t4 < 0 then (some ((⟨0, 0, 0⟩ : S85), 3)) else (some ((⟨2, t4, 0⟩ : S85), 0)))) else none) else (some ((⟨0, 0, 0⟩ : S85), 2))) else (some ((⟨0, 0, 0⟩ : S85), 2))) else none)) else (if 0 < (a1.length : Int) then (if (a1.getD 0 ByteArray.empty) = (ByteArray.mk #[114, 101, 115, 116, 97, 114, 116]) then (if (a1.length : Int) = 2 then (if 1 < (a1.length : Int) then ((impl_partNamed.f k a0 (a1.getD 1 ByteArray.empty)).bind fun t5 => (if t5 < 0 then (some ((⟨0, 0, 0⟩ : S85), 3)) else (some ((⟨2, t5, 0⟩ : S85), 0)))) else none) else (some ((⟨0, 0, 0⟩ : S85), 2))) else (some ((⟨0, 0, 0⟩ : S85), 2))) else none)) else none)) else (if 0 < (a1.length : Int) then (if (a1.getD 0 ByteArray.empty) = (ByteArray.mk #[105, 110, 112, 117, 116]) then (if (a1.length : Int) = 3 then (if 1 < (a1.length : Int) then ((impl_DecNum.f (a1.getD 1 ByteArray.empty) 7).bind fun t6 => (if 2 < (a1.length : Int) then ((impl_DecNum.f (a1.getD 2 ByteArray.empty) 4294967295).bind fun t7 => (if t6.2 = true then (if t7.2 = true then (if t6.1 ≥ 0 then (if t7.1 ≥ 0 then (some ((⟨1, t6.1, (IntKind.wrap .u32 (t7.1))⟩ : S85), 0)) else (some ((⟨0, 0, 0⟩ : S85), 2))) else (some ((⟨0, 0, 0⟩ : S85), 2))) else (some ((⟨0, 0, 0⟩ : S85), 2))) else (some ((⟨0, 0, 0⟩ : S85), 2)))) else none)) else none) else (if 0 < (a1.length : Int) then (if (a1.getD 0 ByteArray.empty) = (ByteArray.mk #[114, 101, 115, 116, 97, 114, 116]) then (if (a1.length : Int) = 2 then (if 1 < (a1.length : Int) then ((impl_partNamed.f k a0 (a1.getD 1 ByteArray.empty)).bind fun t8 => (if t8 < 0 then (some ((⟨0, 0, 0⟩ : S85), 3)) else (some ((⟨2, t8, 0⟩ : S85), 0)))) else none) else (some ((⟨0, 0, 0⟩ : S85), 2))) else (some ((⟨0, 0, 0⟩ : S85), 2))) else none)) else (if 0 < (a1.length : Int) then (if (a1.getD 0 ByteArray.empty) = (ByteArray.mk #[114, 101, 115, 116, 97, 114, 116]) then (if (a1.length : Int) = 2 then (if 1 < (a1.length : Int) then ((impl_partNamed.f k a0 (a1.getD 1 ByteArray.empty)).bind fun t9 => (if t9 < 0 then (some ((⟨0, 0, 0⟩ : S85), 3)) else (some ((⟨2, t9, 0⟩ : S85), 0)))) else none) else (some ((⟨0, 0, 0⟩ : S85), 2))) else (some ((⟨0, 0, 0⟩ : S85), 2))) else none)) else none)) else none
def impl_readCmd.c : FnD := { f := 39, sh := false, ps := [.agg T33, .c (.sl .str)], pb := [], vc := .tup [(true, [.int .i64, .int .i64, .int .u32]), (false, [.int .i64])], bs := [], R := S85 × Int, fn := fun k x y => impl_readCmd.f k x.1 x.2.1, out := fun y => (((y.1.1, y.1.2.1, y.1.2.2, ()), (y.2, ()), ()), ()), inn := fun d => ((d.1.1.1, d.1.1.2.1, d.1.1.2.2.1), d.1.2.1.1), inv := fun _ => rfl }
theorem impl_readCmd.ok : impl_readCmd.c.OK Tryz.prog :=
  FnD.of impl_readCmd.c mix tok (fn := Tryz.f39) Tryz.func39 (by kernel_rfl) (fun _ _ => by kernel_rfl) (by kernel_rfl) (by kernel_rfl) [impl_DecNum.c, impl_partNamed.c] ⟨impl_DecNum.ok, ⟨impl_partNamed.ok, trivial⟩⟩
    [] { c := fun _ => none, cc := [], ms := [], tn := [], sh := false, fm := [] } rfl 5000 trivial (fun k x y => by kernel_rfl)

/-! ### loop.example/g00076/impl.ParseScript: function 15 -/
mutual
def impl_ParseScript.l16 : Nat → (List ByteArray) → Int → Int → S33 → (List S85) → Option ((List S85) × Int × Int)
  | 0, _, _, _, _, _ => none
  | k + 1, x24, x25, x26, y0, h1 => if x26 < x25 then (if 0 ≤ x26 then (if x26 < (x24.length : Int) then (sameO ((strings_Split.f (rd_str x24 x26) (ByteArray.mk #[32])).bind fun t3 => (sameO ((impl_readCmd.f k y0 t3).bind fun t4 => (impl_ParseScript.l23 k x26 t4.2 x24 x25 x26 y0 h1 t4.1)) ((impl_readCmd.f k y0 t3).bind fun t4 => (impl_ParseScript.l23 k x26 t4.2 x24 x25 x26 y0 h1 t4.1)))) ((strings_Split.f (rd_str x24 x26) (ByteArray.mk #[32])).bind fun t3 => ((impl_readCmd.f k y0 t3).bind fun t4 => (impl_ParseScript.l23 k x26 t4.2 x24 x25 x26 y0 h1 t4.1)))) else none) else none) else (some (h1, 0, 0))
def impl_ParseScript.l23 : Nat → Int → Int → (List ByteArray) → Int → Int → S33 → (List S85) → S85 → Option ((List S85) × Int × Int)
  | 0, _, _, _, _, _, _, _, _ => none
  | k + 1, x10, x13, x24, x25, x26, y0, h1, y2 => if x13 = 0 then (if (h1.length : Int) = 300 then (if 4 = 0 then (if h1.length + ([y2] : List S85).length < 5864062014805 then (impl_ParseScript.l16 k x24 x25 (wrap64 (x26 + 1)) y0 (h1 ++ ([y2] : List S85))) else none) else (some (([] : List S85), 4, (wrap64 (x10 + 1))))) else (if x13 = 0 then (if h1.length + ([y2] : List S85).length < 5864062014805 then (impl_ParseScript.l16 k x24 x25 (wrap64 (x26 + 1)) y0 (h1 ++ ([y2] : List S85))) else none) else (some (([] : List S85), x13, (wrap64 (x10 + 1)))))) else (if x13 = 0 then (if h1.length + ([y2] : List S85).length < 5864062014805 then (impl_ParseScript.l16 k x24 x25 (wrap64 (x26 + 1)) y0 (h1 ++ ([y2] : List S85))) else none) else (some (([] : List S85), x13, (wrap64 (x10 + 1)))))
end
def impl_ParseScript.f (k : Nat) (a0 : S33) (a1 : ByteArray) : Option ((List S85) × Int × Int) := (impl_isSound.f k a0).bind fun t1 => (if t1 = true then ((impl_linesOf.f a1).bind fun t2 => (if t2.2 = true then (impl_ParseScript.l16 k t2.1 (t2.1.length : Int) 0 a0 ([] : List S85)) else (some (([] : List S85), 1, 0)))) else (some (([] : List S85), 5, 0)))
def impl_ParseScript.c : FnD := { f := 15, sh := false, ps := [.agg T33, .c .str], pb := [], vc := .tup [(false, [.own 0]), (false, [.int .i64]), (false, [.int .i64])], bs := [.arr T85 .un], R := (List S85) × Int × Int, fn := fun k x y => impl_ParseScript.f k x.1 x.2.1, out := fun y => ((((), ()), (y.2.1, ()), (y.2.2, ()), ()), (y.1, ())), inn := fun d => (d.2.1, d.1.2.1.1, d.1.2.2.1.1), inv := fun _ => rfl }
theorem impl_ParseScript.ok : impl_ParseScript.c.OK Tryz.prog :=
  FnD.of impl_ParseScript.c mix tok (fn := Tryz.f15) Tryz.func15 (by kernel_rfl) (fun _ _ => by kernel_rfl) (by kernel_rfl) (by kernel_rfl) [impl_isSound.c, impl_linesOf.c, strings_Split.c, impl_readCmd.c] ⟨impl_isSound.ok, ⟨impl_linesOf.ok, ⟨strings_Split.ok, ⟨impl_readCmd.ok, trivial⟩⟩⟩⟩
    [{ lbl := 16, live := [(2, none), (9, some (.row T85)), (24, none), (25, none), (26, none)], ms := [], vs := [.c (.ptr 0 0), .c (.own 1), .c (.sl true .str), .c (.int .i64), .c (.int .i64)], bs := [.cells 33 [.int .i64, .int .i64, .int .i64, .int .i64, .int .i64, .int .i64, .int .i64, .int .i64, .int .i64, .int .i64, .int .i64, .int .i64, .int .i64, .int .i64, .int .i64, .sl false T71, .sl false (.int .i64), .sl false T77, .sl false T182], .arr T85 .un], f := fun k x y => impl_ParseScript.l16 k x.2.2.1 x.2.2.2.1 x.2.2.2.2.1 (y.1.1, (y.1.2.1, y.1.2.2.1, y.1.2.2.2.1), y.1.2.2.2.2.1, (y.1.2.2.2.2.2.1, y.1.2.2.2.2.2.2.1, y.1.2.2.2.2.2.2.2.1, y.1.2.2.2.2.2.2.2.2.1, y.1.2.2.2.2.2.2.2.2.2.1, y.1.2.2.2.2.2.2.2.2.2.2.1, y.1.2.2.2.2.2.2.2.2.2.2.2.1), y.1.2.2.2.2.2.2.2.2.2.2.2.2.1, y.1.2.2.2.2.2.2.2.2.2.2.2.2.2.1, y.1.2.2.2.2.2.2.2.2.2.2.2.2.2.2.1, y.1.2.2.2.2.2.2.2.2.2.2.2.2.2.2.2.1, y.1.2.2.2.2.2.2.2.2.2.2.2.2.2.2.2.2.1, y.1.2.2.2.2.2.2.2.2.2.2.2.2.2.2.2.2.2.1, y.1.2.2.2.2.2.2.2.2.2.2.2.2.2.2.2.2.2.2.1) y.2.1 },
      { lbl := 23, live := [(2, none), (9, none), (10, none), (12, none), (13, none), (24, none), (25, none), (26, none)], ms := [], vs := [.c (.ptr 0 0), .c (.own 1), .c (.int .i64), .c (.ptr 2 0), .c (.int .i64), .c (.sl true .str), .c (.int .i64), .c (.int .i64)], bs := [.cells 33 [.int .i64, .int .i64, .int .i64, .int .i64, .int .i64, .int .i64, .int .i64, .int .i64, .int .i64, .int .i64, .int .i64, .int .i64, .int .i64, .int .i64, .int .i64, .sl false T71, .sl false (.int .i64), .sl false T77, .sl false T182], .arr T85 .un, .cells 85 [.int .i64, .int .i64, .int .u32]], f := fun k x y => impl_ParseScript.l23 k x.2.2.1 x.2.2.2.2.1 x.2.2.2.2.2.1 x.2.2.2.2.2.2.1 x.2.2.2.2.2.2.2.1 (y.1.1, (y.1.2.1, y.1.2.2.1, y.1.2.2.2.1), y.1.2.2.2.2.1, (y.1.2.2.2.2.2.1, y.1.2.2.2.2.2.2.1, y.1.2.2.2.2.2.2.2.1, y.1.2.2.2.2.2.2.2.2.1, y.1.2.2.2.2.2.2.2.2.2.1, y.1.2.2.2.2.2.2.2.2.2.2.1, y.1.2.2.2.2.2.2.2.2.2.2.2.1), y.1.2.2.2.2.2.2.2.2.2.2.2.2.1, y.1.2.2.2.2.2.2.2.2.2.2.2.2.2.1, y.1.2.2.2.2.2.2.2.2.2.2.2.2.2.2.1, y.1.2.2.2.2.2.2.2.2.2.2.2.2.2.2.2.1, y.1.2.2.2.2.2.2.2.2.2.2.2.2.2.2.2.2.1, y.1.2.2.2.2.2.2.2.2.2.2.2.2.2.2.2.2.2.1, y.1.2.2.2.2.2.2.2.2.2.2.2.2.2.2.2.2.2.2.1) y.2.1 (y.2.2.1.1, y.2.2.1.2.1, y.2.2.1.2.2.1) }] { c := fun n => bif Nat.beq n 0 then some (.row T85) else  none, cc := [], ms := [], tn := [], sh := false, fm := [] } rfl 5000 ⟨⟨fun _ _ => rfl, fun k x y => by kernel_rfl⟩, ⟨⟨fun _ _ => rfl, fun k x y => by kernel_rfl⟩, trivial⟩⟩ (fun k x y => by kernel_rfl)

/-! ### loop.example/g00076/laws.eqCmd: function 53 -/
def laws_eqCmd.f (a0 : S85) (a1 : S85) : Option (Bool) := if a0.f0 = a1.f0 then (if a0.f1 = a1.f1 then (if a0.f2 = a1.f2 then (some true) else (some false)) else (some false)) else (some false)
def laws_eqCmd.c : FnD := { f := 53, sh := false, ps := [.agg T85, .agg T85], pb := [], vc := .c (.bool), bs := [], R := Bool, fn := fun _ x y => laws_eqCmd.f x.1 x.2.1, out := fun y => (y, ()), inn := fun d => d.1, inv := fun _ => rfl }
theorem laws_eqCmd.ok : laws_eqCmd.c.OK Tryz.prog :=
  FnD.of laws_eqCmd.c mix tok (fn := Tryz.f53) Tryz.func53 (by kernel_rfl) (fun _ _ => by kernel_rfl) (by kernel_rfl) (by kernel_rfl) [] trivial
    [] { c := fun _ => none, cc := [], ms := [], tn := [], sh := false, fm := [] } rfl 5000 trivial (fun k x y => by kernel_rfl)

/-! ### loop.example/g00076/laws.eqCmdS: function 19 -/
def laws_eqCmdS.l8 : Nat → (List S85) → (List S85) → Int → Option (Bool)
  | 0, _, _, _ => none
  | k + 1, x0, x1, x5 => if x5 < (x0.length : Int) then (if 0 ≤ x5 then (if x5 < (x0.length : Int) then (if 0 ≤ x5 then (if x5 < (x1.length : Int) then ((laws_eqCmd.f (rd_T85 x0 x5) (rd_T85 x1 x5)).bind fun t1 => (if t1 = true then (laws_eqCmdS.l8 k x0 x1 (wrap64 (x5 + 1))) else (some false))) else none) else none) else none) else none) else (some true)
def laws_eqCmdS.f (k : Nat) (a0 : List S85) (a1 : List S85) : Option (Bool) := if (a0.length : Int) = (a1.length : Int) then (laws_eqCmdS.l8 k a0 a1 0) else (some false)
def laws_eqCmdS.c : FnD := { f := 19, sh := false, ps := [.c (.sl T85), .c (.sl T85)], pb := [], vc := .c (.bool), bs := [], R := Bool, fn := fun k x y => laws_eqCmdS.f k x.1 x.2.1, out := fun y => (y, ()), inn := fun d => d.1, inv := fun _ => rfl }
theorem laws_eqCmdS.ok : laws_eqCmdS.c.OK Tryz.prog :=
  FnD.of laws_eqCmdS.c mix tok (fn := Tryz.f19) Tryz.func19 (by kernel_rfl) (fun _ _ => by kernel_rfl) (by kernel_rfl) (by kernel_rfl) [laws_eqCmd.c] ⟨laws_eqCmd.ok, trivial⟩
    [{ lbl := 8, live := [(0, none), (1, none), (5, none)], ms := [], vs := [.c (.sl false T85), .c (.sl false T85), .c (.int .i64)], bs := [], f := fun k x y => laws_eqCmdS.l8 k x.1 x.2.1 x.2.2.1 }] { c := fun _ => none, cc := [], ms := [], tn := [], sh := false, fm := [] } rfl 5000 ⟨⟨fun _ _ => rfl, fun k x y => by kernel_rfl⟩, trivial⟩ (fun k x y => by kernel_rfl)

/-! ### loop.example/g00076/laws.eqShape: function 54 -/
def laws_eqShape.f (a0 : S25) (a1 : S25) : Option (Bool) := if a0.f0 = a1.f0 then (if a0.f1 = a1.f1 then (if a0.f2 = a1.f2 then (some true) else (some false)) else (some false)) else (some false)
def laws_eqShape.c : FnD := { f := 54, sh := false, ps := [.agg T25, .agg T25], pb := [], vc := .c (.bool), bs := [], R := Bool, fn := fun _ x y => laws_eqShape.f x.1 x.2.1, out := fun y => (y, ()), inn := fun d => d.1, inv := fun _ => rfl }
theorem laws_eqShape.ok : laws_eqShape.c.OK Tryz.prog :=
  FnD.of laws_eqShape.c mix tok (fn := Tryz.f54) Tryz.func54 (by kernel_rfl) (fun _ _ => by kernel_rfl) (by kernel_rfl) (by kernel_rfl) [] trivial
    [] { c := fun _ => none, cc := [], ms := [], tn := [], sh := false, fm := [] } rfl 5000 trivial (fun k x y => by kernel_rfl)

/-! ### loop.example/g00076/laws.eqCosts: function 55 -/
def laws_eqCosts.f (a0 : S27) (a1 : S27) : Option (Bool) := if a0.f0 = a1.f0 then (if a0.f1 = a1.f1 then (if a0.f2 = a1.f2 then (if a0.f3 = a1.f3 then (if a0.f4 = a1.f4 then (if a0.f5 = a1.f5 then (if a0.f6 = a1.f6 then (some true) else (some false)) else (some false)) else (some false)) else (some false)) else (some false)) else (some false)) else (some false)
def laws_eqCosts.c : FnD := { f := 55, sh := false, ps := [.agg T27, .agg T27], pb := [], vc := .c (.bool), bs := [], R := Bool, fn := fun _ x y => laws_eqCosts.f x.1 x.2.1, out := fun y => (y, ()), inn := fun d => d.1, inv := fun _ => rfl }
theorem laws_eqCosts.ok : laws_eqCosts.c.OK Tryz.prog :=
  FnD.of laws_eqCosts.c mix tok (fn := Tryz.f55) Tryz.func55 (by kernel_rfl) (fun _ _ => by kernel_rfl) (by kernel_rfl) (by kernel_rfl) [] trivial
    [] { c := fun _ => none, cc := [], ms := [], tn := [], sh := false, fm := [] } rfl 5000 trivial (fun k x y => by kernel_rfl)

/-! ### loop.example/g00076/laws.eqPolicy: function 155 -/
def laws_eqPolicy.f (a0 : S68) (a1 : S68) : Option (Bool) := if a0.f0 = a1.f0 then (if a0.f1 = a1.f1 then (some true) else (some false)) else (some false)
def laws_eqPolicy.c : FnD := { f := 155, sh := false, ps := [.agg T68, .agg T68], pb := [], vc := .c (.bool), bs := [], R := Bool, fn := fun _ x y => laws_eqPolicy.f x.1 x.2.1, out := fun y => (y, ()), inn := fun d => d.1, inv := fun _ => rfl }
theorem laws_eqPolicy.ok : laws_eqPolicy.c.OK Tryz.prog :=
  FnD.of laws_eqPolicy.c mix tok (fn := Tryz.f155) Tryz.func155 (by kernel_rfl) (fun _ _ => by kernel_rfl) (by kernel_rfl) (by kernel_rfl) [] trivial
    [] { c := fun _ => none, cc := [], ms := [], tn := [], sh := false, fm := [] } rfl 5000 trivial (fun k x y => by kernel_rfl)

/-! ### loop.example/g00076/laws.eqWindow: function 189 -/
def laws_eqWindow.f (a0 : S66) (a1 : S66) : Option (Bool) := if a0.f0 = a1.f0 then (if a0.f1 = a1.f1 then (if a0.f2 = a1.f2 then (some true) else (some false)) else (some false)) else (some false)
def laws_eqWindow.c : FnD := { f := 189, sh := false, ps := [.agg T66, .agg T66], pb := [], vc := .c (.bool), bs := [], R := Bool, fn := fun _ x y => laws_eqWindow.f x.1 x.2.1, out := fun y => (y, ()), inn := fun d => d.1, inv := fun _ => rfl }
theorem laws_eqWindow.ok : laws_eqWindow.c.OK Tryz.prog :=
  FnD.of laws_eqWindow.c mix tok (fn := Tryz.f189) Tryz.func189 (by kernel_rfl) (fun _ _ => by kernel_rfl) (by kernel_rfl) (by kernel_rfl) [] trivial
    [] { c := fun _ => none, cc := [], ms := [], tn := [], sh := false, fm := [] } rfl 5000 trivial (fun k x y => by kernel_rfl)

/-! ### loop.example/g00076/laws.eqWindowS: function 156 -/
def laws_eqWindowS.l8 : Nat → (List S66) → (List S66) → Int → Option (Bool)
  | 0, _, _, _ => none
  | k + 1, x0, x1, x5 => if x5 < (x0.length : Int) then (if 0 ≤ x5 then (if x5 < (x0.length : Int) then (if 0 ≤ x5 then (if x5 < (x1.length : Int) then ((laws_eqWindow.f (rd_T66 x0 x5) (rd_T66 x1 x5)).bind fun t1 => (if t1 = true then (laws_eqWindowS.l8 k x0 x1 (wrap64 (x5 + 1))) else (some false))) else none) else none) else none) else none) else (some true)
def laws_eqWindowS.f (k : Nat) (a0 : List S66) (a1 : List S66) : Option (Bool) := if (a0.length : Int) = (a1.length : Int) then (laws_eqWindowS.l8 k a0 a1 0) else (some false)
def laws_eqWindowS.c : FnD := { f := 156, sh := false, ps := [.c (.sl T66), .c (.sl T66)], pb := [], vc := .c (.bool), bs := [], R := Bool, fn := fun k x y => laws_eqWindowS.f k x.1 x.2.1, out := fun y => (y, ()), inn := fun d => d.1, inv := fun _ => rfl }
theorem laws_eqWindowS.ok : laws_eqWindowS.c.OK Tryz.prog :=
  FnD.of laws_eqWindowS.c mix tok (fn := Tryz.f156) Tryz.func156 (by kernel_rfl) (fun _ _ => by kernel_rfl) (by kernel_rfl) (by kernel_rfl) [laws_eqWindow.c] ⟨laws_eqWindow.ok, trivial⟩
    [{ lbl := 8, live := [(0, none), (1, none), (5, none)], ms := [], vs := [.c (.sl false T66), .c (.sl false T66), .c (.int .i64)], bs := [], f := fun k x y => laws_eqWindowS.l8 k x.1 x.2.1 x.2.2.1 }] { c := fun _ => none, cc := [], ms := [], tn := [], sh := false, fm := [] } rfl 5000 ⟨⟨fun _ _ => rfl, fun k x y => by kernel_rfl⟩, trivial⟩ (fun k x y => by kernel_rfl)

/-! ### loop.example/g00076/laws.eqPartRow: function 106 -/
def laws_eqPartRow.f (k : Nat) (a0 : S71) (a1 : S71) : Option (Bool) := if a0.f0 = a1.f0 then (if a0.f1 = a1.f1 then ((laws_eqPolicy.f a0.f2 a1.f2).bind fun t1 => (if t1 = true then ((laws_eqWindowS.f k a0.f3 a1.f3).bind fun t2 => (if t2 = true then (some true) else (some false))) else (some false))) else (some false)) else (some false)
def laws_eqPartRow.c : FnD := { f := 106, sh := false, ps := [.agg T71, .agg T71], pb := [], vc := .c (.bool), bs := [], R := Bool, fn := fun k x y => laws_eqPartRow.f k x.1 x.2.1, out := fun y => (y, ()), inn := fun d => d.1, inv := fun _ => rfl }
theorem laws_eqPartRow.ok : laws_eqPartRow.c.OK Tryz.prog :=
  FnD.of laws_eqPartRow.c mix tok (fn := Tryz.f106) Tryz.func106 (by kernel_rfl) (fun _ _ => by kernel_rfl) (by kernel_rfl) (by kernel_rfl) [laws_eqPolicy.c, laws_eqWindowS.c] ⟨laws_eqPolicy.ok, ⟨laws_eqWindowS.ok, trivial⟩⟩
    [] { c := fun _ => none, cc := [], ms := [], tn := [], sh := false, fm := [] } rfl 5000 trivial (fun k x y => by kernel_rfl)

/-! ### loop.example/g00076/laws.eqPartRowS: function 56 -/
def laws_eqPartRowS.l8 : Nat → (List S71) → (List S71) → Int → Option (Bool)
  | 0, _, _, _ => none
  | k + 1, x0, x1, x5 => if x5 < (x0.length : Int) then (if 0 ≤ x5 then (if x5 < (x0.length : Int) then (if 0 ≤ x5 then (if x5 < (x1.length : Int) then ((laws_eqPartRow.f k (rd_T71 x0 x5) (rd_T71 x1 x5)).bind fun t1 => (if t1 = true then (laws_eqPartRowS.l8 k x0 x1 (wrap64 (x5 + 1))) else (some false))) else none) else none) else none) else none) else (some true)
def laws_eqPartRowS.f (k : Nat) (a0 : List S71) (a1 : List S71) : Option (Bool) := if (a0.length : Int) = (a1.length : Int) then (laws_eqPartRowS.l8 k a0 a1 0) else (some false)
def laws_eqPartRowS.c : FnD := { f := 56, sh := false, ps := [.c (.sl T71), .c (.sl T71)], pb := [], vc := .c (.bool), bs := [], R := Bool, fn := fun k x y => laws_eqPartRowS.f k x.1 x.2.1, out := fun y => (y, ()), inn := fun d => d.1, inv := fun _ => rfl }
theorem laws_eqPartRowS.ok : laws_eqPartRowS.c.OK Tryz.prog :=
  FnD.of laws_eqPartRowS.c mix tok (fn := Tryz.f56) Tryz.func56 (by kernel_rfl) (fun _ _ => by kernel_rfl) (by kernel_rfl) (by kernel_rfl) [laws_eqPartRow.c] ⟨laws_eqPartRow.ok, trivial⟩
    [{ lbl := 8, live := [(0, none), (1, none), (5, none)], ms := [], vs := [.c (.sl false T71), .c (.sl false T71), .c (.int .i64)], bs := [], f := fun k x y => laws_eqPartRowS.l8 k x.1 x.2.1 x.2.2.1 }] { c := fun _ => none, cc := [], ms := [], tn := [], sh := false, fm := [] } rfl 5000 ⟨⟨fun _ _ => rfl, fun k x y => by kernel_rfl⟩, trivial⟩ (fun k x y => by kernel_rfl)

/-! ### loop.example/g00076/laws.eqIntS: function 57 -/
def laws_eqIntS.l8 : Nat → (List Int) → (List Int) → Int → Option (Bool)
  | 0, _, _, _ => none
  | k + 1, x0, x1, x5 => if x5 < (x0.length : Int) then (if 0 ≤ x5 then (if x5 < (x0.length : Int) then (if 0 ≤ x5 then (if x5 < (x1.length : Int) then (if (rd x0 x5) = (rd x1 x5) then (laws_eqIntS.l8 k x0 x1 (wrap64 (x5 + 1))) else (some false)) else none) else none) else none) else none) else (some true)
def laws_eqIntS.f (k : Nat) (a0 : List Int) (a1 : List Int) : Option (Bool) := if (a0.length : Int) = (a1.length : Int) then (laws_eqIntS.l8 k a0 a1 0) else (some false)
def laws_eqIntS.c : FnD := { f := 57, sh := false, ps := [.c (.sl (.int .i64)), .c (.sl (.int .i64))], pb := [], vc := .c (.bool), bs := [], R := Bool, fn := fun k x y => laws_eqIntS.f k x.1 x.2.1, out := fun y => (y, ()), inn := fun d => d.1, inv := fun _ => rfl }
theorem laws_eqIntS.ok : laws_eqIntS.c.OK Tryz.prog :=
  FnD.of laws_eqIntS.c mix tok (fn := Tryz.f57) Tryz.func57 (by kernel_rfl) (fun _ _ => by kernel_rfl) (by kernel_rfl) (by kernel_rfl) [] trivial
    [{ lbl := 8, live := [(0, none), (1, none), (5, none)], ms := [], vs := [.c (.sl false (.int .i64)), .c (.sl false (.int .i64)), .c (.int .i64)], bs := [], f := fun k x y => laws_eqIntS.l8 k x.1 x.2.1 x.2.2.1 }] { c := fun _ => none, cc := [], ms := [], tn := [], sh := false, fm := [] } rfl 5000 ⟨⟨fun _ _ => rfl, fun k x y => by kernel_rfl⟩, trivial⟩ (fun k x y => by kernel_rfl)

/-! ### loop.example/g00076/laws.eqChanRow: function 107 -/
def laws_eqChanRow.f (a0 : S77) (a1 : S77) : Option (Bool) := if a0.f0 = a1.f0 then (if a0.f1 = a1.f1 then (if a0.f2 = a1.f2 then (if a0.f3 = a1.f3 then (some true) else (some false)) else (some false)) else (some false)) else (some false)
def laws_eqChanRow.c : FnD := { f := 107, sh := false, ps := [.agg T77, .agg T77], pb := [], vc := .c (.bool), bs := [], R := Bool, fn := fun _ x y => laws_eqChanRow.f x.1 x.2.1, out := fun y => (y, ()), inn := fun d => d.1, inv := fun _ => rfl }
theorem laws_eqChanRow.ok : laws_eqChanRow.c.OK Tryz.prog :=
  FnD.of laws_eqChanRow.c mix tok (fn := Tryz.f107) Tryz.func107 (by kernel_rfl) (fun _ _ => by kernel_rfl) (by kernel_rfl) (by kernel_rfl) [] trivial
    [] { c := fun _ => none, cc := [], ms := [], tn := [], sh := false, fm := [] } rfl 5000 trivial (fun k x y => by kernel_rfl)

/-! ### loop.example/g00076/laws.eqChanRowS: function 58 -/
def laws_eqChanRowS.l8 : Nat → (List S77) → (List S77) → Int → Option (Bool)
  | 0, _, _, _ => none
  | k + 1, x0, x1, x5 => if x5 < (x0.length : Int) then (if 0 ≤ x5 then (if x5 < (x0.length : Int) then (if 0 ≤ x5 then (if x5 < (x1.length : Int) then ((laws_eqChanRow.f (rd_T77 x0 x5) (rd_T77 x1 x5)).bind fun t1 => (if t1 = true then (laws_eqChanRowS.l8 k x0 x1 (wrap64 (x5 + 1))) else (some false))) else none) else none) else none) else none) else (some true)
def laws_eqChanRowS.f (k : Nat) (a0 : List S77) (a1 : List S77) : Option (Bool) := if (a0.length : Int) = (a1.length : Int) then (laws_eqChanRowS.l8 k a0 a1 0) else (some false)
def laws_eqChanRowS.c : FnD := { f := 58, sh := false, ps := [.c (.sl T77), .c (.sl T77)], pb := [], vc := .c (.bool), bs := [], R := Bool, fn := fun k x y => laws_eqChanRowS.f k x.1 x.2.1, out := fun y => (y, ()), inn := fun d => d.1, inv := fun _ => rfl }
theorem laws_eqChanRowS.ok : laws_eqChanRowS.c.OK Tryz.prog :=
  FnD.of laws_eqChanRowS.c mix tok (fn := Tryz.f58) Tryz.func58 (by kernel_rfl) (fun _ _ => by kernel_rfl) (by kernel_rfl) (by kernel_rfl) [laws_eqChanRow.c] ⟨laws_eqChanRow.ok, trivial⟩
    [{ lbl := 8, live := [(0, none), (1, none), (5, none)], ms := [], vs := [.c (.sl false T77), .c (.sl false T77), .c (.int .i64)], bs := [], f := fun k x y => laws_eqChanRowS.l8 k x.1 x.2.1 x.2.2.1 }] { c := fun _ => none, cc := [], ms := [], tn := [], sh := false, fm := [] } rfl 5000 ⟨⟨fun _ _ => rfl, fun k x y => by kernel_rfl⟩, trivial⟩ (fun k x y => by kernel_rfl)

/-! ### loop.example/g00076/laws.eqSlot: function 108 -/
def laws_eqSlot.f (a0 : S182) (a1 : S182) : Option (Bool) := if a0.f0 = a1.f0 then (if a0.f1 = a1.f1 then (if a0.f2 = a1.f2 then (some true) else (some false)) else (some false)) else (some false)
def laws_eqSlot.c : FnD := { f := 108, sh := false, ps := [.agg T182, .agg T182], pb := [], vc := .c (.bool), bs := [], R := Bool, fn := fun _ x y => laws_eqSlot.f x.1 x.2.1, out := fun y => (y, ()), inn := fun d => d.1, inv := fun _ => rfl }
theorem laws_eqSlot.ok : laws_eqSlot.c.OK Tryz.prog :=
  FnD.of laws_eqSlot.c mix tok (fn := Tryz.f108) Tryz.func108 (by kernel_rfl) (fun _ _ => by kernel_rfl) (by kernel_rfl) (by kernel_rfl) [] trivial
    [] { c := fun _ => none, cc := [], ms := [], tn := [], sh := false, fm := [] } rfl 5000 trivial (fun k x y => by kernel_rfl)

/-! ### loop.example/g00076/laws.eqSlotS: function 59 -/
def laws_eqSlotS.l8 : Nat → (List S182) → (List S182) → Int → Option (Bool)
  | 0, _, _, _ => none
  | k + 1, x0, x1, x5 => if x5 < (x0.length : Int) then (if 0 ≤ x5 then (if x5 < (x0.length : Int) then (if 0 ≤ x5 then (if x5 < (x1.length : Int) then ((laws_eqSlot.f (rd_T182 x0 x5) (rd_T182 x1 x5)).bind fun t1 => (if t1 = true then (laws_eqSlotS.l8 k x0 x1 (wrap64 (x5 + 1))) else (some false))) else none) else none) else none) else none) else (some true)
def laws_eqSlotS.f (k : Nat) (a0 : List S182) (a1 : List S182) : Option (Bool) := if (a0.length : Int) = (a1.length : Int) then (laws_eqSlotS.l8 k a0 a1 0) else (some false)
def laws_eqSlotS.c : FnD := { f := 59, sh := false, ps := [.c (.sl T182), .c (.sl T182)], pb := [], vc := .c (.bool), bs := [], R := Bool, fn := fun k x y => laws_eqSlotS.f k x.1 x.2.1, out := fun y => (y, ()), inn := fun d => d.1, inv := fun _ => rfl }
theorem laws_eqSlotS.ok : laws_eqSlotS.c.OK Tryz.prog :=
  FnD.of laws_eqSlotS.c mix tok (fn := Tryz.f59) Tryz.func59 (by kernel_rfl) (fun _ _ => by kernel_rfl) (by kernel_rfl) (by kernel_rfl) [laws_eqSlot.c] ⟨laws_eqSlot.ok, trivial⟩
    [{ lbl := 8, live := [(0, none), (1, none), (5, none)], ms := [], vs := [.c (.sl false T182), .c (.sl false T182), .c (.int .i64)], bs := [], f := fun k x y => laws_eqSlotS.l8 k x.1 x.2.1 x.2.2.1 }] { c := fun _ => none, cc := [], ms := [], tn := [], sh := false, fm := [] } rfl 5000 ⟨⟨fun _ _ => rfl, fun k x y => by kernel_rfl⟩, trivial⟩ (fun k x y => by kernel_rfl)

/-! ### loop.example/g00076/laws.eqTables: function 20 -/
def laws_eqTables.f (k : Nat) (a0 : S33) (a1 : S33) : Option (Bool) := if a0.f0 = a1.f0 then ((laws_eqShape.f a0.f1 a1.f1).bind fun t1 => (if t1 = true then (if a0.f2 = a1.f2 then ((laws_eqCosts.f a0.f3 a1.f3).bind fun t2 => (if t2 = true then (if a0.f4 = a1.f4 then (if a0.f5 = a1.f5 then (if a0.f6 = a1.f6 then ((laws_eqPartRowS.f k a0.f7 a1.f7).bind fun t3 => (if t3 = true then ((laws_eqIntS.f k a0.f8 a1.f8).bind fun t4 => (if t4 = true then ((laws_eqChanRowS.f k a0.f9 a1.f9).bind fun t5 => (if t5 = true then ((laws_eqSlotS.f k a0.f10 a1.f10).bind fun t6 => (if t6 = true then (some true) else (some false))) else (some false))) else (some false))) else (some false))) else (some false)) else (some false)) else (some false)) else (some false))) else (some false)) else (some false))) else (some false)
def laws_eqTables.c : FnD := { f := 20, sh := false, ps := [.agg T33, .agg T33], pb := [], vc := .c (.bool), bs := [], R := Bool, fn := fun k x y => laws_eqTables.f k x.1 x.2.1, out := fun y => (y, ()), inn := fun d => d.1, inv := fun _ => rfl }
theorem laws_eqTables.ok : laws_eqTables.c.OK Tryz.prog :=
  FnD.of laws_eqTables.c mix tok (fn := Tryz.f20) Tryz.func20 (by kernel_rfl) (fun _ _ => by kernel_rfl) (by kernel_rfl) (by kernel_rfl) [laws_eqShape.c, laws_eqCosts.c, laws_eqPartRowS.c, laws_eqIntS.c, laws_eqChanRowS.c, laws_eqSlotS.c] ⟨laws_eqShape.ok, ⟨laws_eqCosts.ok, ⟨laws_eqPartRowS.ok, ⟨laws_eqIntS.ok, ⟨laws_eqChanRowS.ok, ⟨laws_eqSlotS.ok, trivial⟩⟩⟩⟩⟩⟩
    [] { c := fun _ => none, cc := [], ms := [], tn := [], sh := false, fm := [] } rfl 5000 trivial (fun k x y => by kernel_rfl)

/-! ### loop.example/g00076/laws.markText: function 109 -/
def laws_markText.l8 : Nat → Int → ByteArray → Option (ByteArray)
  | 0, _, _ => none
  | k + 1, x0, x3 => if x0 > 0 then (if (strOf ([(IntKind.wrap .u8 ((wrap64 (48 + (Int.tmod x0 10)))))] : List Int)).size + x3.size ≤ 9223372036854775807 then (laws_markText.l8 k (wrap64 (Int.tdiv x0 10)) ((strOf ([(IntKind.wrap .u8 ((wrap64 (48 + (Int.tmod x0 10)))))] : List Int)) ++ x3)) else none) else (if (ByteArray.mk #[109]).size + x3.size ≤ 9223372036854775807 then (some ((ByteArray.mk #[109]) ++ x3)) else none)
def laws_markText.f (k : Nat) (a0 : Int) : Option (ByteArray) := if a0 ≤ 0 then (some (ByteArray.mk #[109, 48])) else (laws_markText.l8 k a0 (ByteArray.mk #[]))
def laws_markText.c : FnD := { f := 109, sh := false, ps := [.c (.int .i64)], pb := [], vc := .c (.str), bs := [], R := ByteArray, fn := fun k x y => laws_markText.f k x.1, out := fun y => (y, ()), inn := fun d => d.1, inv := fun _ => rfl }
theorem laws_markText.ok : laws_markText.c.OK Tryz.prog :=
  FnD.of laws_markText.c mix tok (fn := Tryz.f109) Tryz.func109 (by kernel_rfl) (fun _ _ => by kernel_rfl) (by kernel_rfl) (by kernel_rfl) [] trivial
    [{ lbl := 8, live := [(0, none), (3, none)], ms := [], vs := [.c (.int .i64), .c (.str)], bs := [], f := fun k x y => laws_markText.l8 k x.1 x.2.1 }] { c := fun _ => none, cc := [], ms := [], tn := [], sh := false, fm := [] } rfl 5000 ⟨⟨fun _ _ => rfl, fun k x y => by kernel_rfl⟩, trivial⟩ (fun k x y => by kernel_rfl)

/-! ### loop.example/g00076/laws.markWindowS: function 110 -/
def laws_markWindowS_o1.l4 : Nat → Int → Int → (List S66) → Option (Int × (List S66))
  | 0, _, _, _ => none
  | k + 1, x1, x5, h0 => if x5 < (lenZ h0) then (if 0 ≤ x5 then (if x5 < (h0.length : Int) then ((let q1 : List S66 := h0.set x5.toNat (⟨x1, (rd_T66 h0 x5).f1, (rd_T66 h0 x5).f2⟩ : S66); if 0 ≤ x5 then (if x5 < (q1.length : Int) then ((let q2 : List S66 := q1.set x5.toNat (⟨(rd_T66 q1 x5).f0, (wrap64 (x1 + 1)), (rd_T66 q1 x5).f2⟩ : S66); if 0 ≤ x5 then (if x5 < (q2.length : Int) then ((let q3 : List S66 := q2.set x5.toNat (⟨(rd_T66 q2 x5).f0, (rd_T66 q2 x5).f1, (wrap64 ((wrap64 (x1 + 1)) + 1))⟩ : S66); laws_markWindowS_o1.l4 k (wrap64 ((wrap64 ((wrap64 (x1 + 1)) + 1)) + 1)) (wrap64 (x5 + 1)) q3)) else none) else none)) else none) else none)) else none) else none) else (some (x1, h0))
def laws_markWindowS_o1.f (k : Nat) (a1 : Int) (h0 : List S66) : Option (Int × (List S66)) := laws_markWindowS_o1.l4 k a1 0 h0
def laws_markWindowS_o1.c : FnD := { f := 110, sh := false, ps := [.vc (.c (.own 0)), .c (.int .i64)], pb := [.arr T66 .un], vc := .c (.int .i64), bs := [.arr T66 .un], R := Int × (List S66), fn := fun k x y => laws_markWindowS_o1.f k x.2.1 y.1, out := fun y => (y.1, (y.2, ())), inn := fun d => (d.1, d.2.1), inv := fun _ => rfl }
theorem laws_markWindowS_o1.ok : laws_markWindowS_o1.c.OK Tryz.prog :=
  FnD.of laws_markWindowS_o1.c mix tok (fn := Tryz.f110) Tryz.func110 (by kernel_rfl) (fun _ _ => by kernel_rfl) (by kernel_rfl) (by kernel_rfl) [] trivial
    [{ lbl := 4, live := [(0, none), (1, none), (5, none)], ms := [], vs := [.c (.own 0), .c (.int .i64), .c (.int .i64)], bs := [.arr T66 .un], f := fun k x y => laws_markWindowS_o1.l4 k x.2.1 x.2.2.1 y.1 }] { c := fun _ => none, cc := [], ms := [], tn := [], sh := false, fm := [] } rfl 5000 ⟨⟨fun _ _ => rfl, fun k x y => by kernel_rfl⟩, trivial⟩ (fun k x y => by kernel_rfl)

/-! ### loop.example/g00076/laws.markPartRowS: function 60 -/
def laws_markPartRowS_o1.l4 : Nat → Int → Int → (List S71) → Option (Int × (List S71))
  | 0, _, _, _ => none
  | k + 1, x1, x5, h0 => if x5 < (h0.length : Int) then ((laws_markText.f k x1).bind fun t1 => (if 0 ≤ x5 then (if x5 < (h0.length : Int) then ((let q2 : List S71 := h0.set x5.toNat (⟨t1, (rd_T71 h0 x5).f1, (rd_T71 h0 x5).f2, (rd_T71 h0 x5).f3⟩ : S71); if 0 ≤ x5 then (if x5 < (q2.length : Int) then ((let q3 : List S71 := q2.set x5.toNat (⟨(rd_T71 q2 x5).f0, (wrap64 (x1 + 1)), (rd_T71 q2 x5).f2, (rd_T71 q2 x5).f3⟩ : S71); if 0 ≤ x5 then (if x5 < (q3.length : Int) then ((let q4 : List S71 := q3.set x5.toNat (⟨(rd_T71 q3 x5).f0, (rd_T71 q3 x5).f1, (⟨(wrap64 ((wrap64 (x1 + 1)) + 1)), ((rd_T71 q3 x5).f2).f1⟩ : S68), (rd_T71 q3 x5).f3⟩ : S71); if 0 ≤ x5 then (if x5 < (q4.length : Int) then ((let q5 : List S71 := q4.set x5.toNat (⟨(rd_T71 q4 x5).f0, (rd_T71 q4 x5).f1, (⟨((rd_T71 q4 x5).f2).f0, (wrap64 ((wrap64 ((wrap64 (x1 + 1)) + 1)) + 1))⟩ : S68), (rd_T71 q4 x5).f3⟩ : S71); if 0 ≤ x5 then (if x5 < (q5.length : Int) then ((laws_markWindowS_o1.f k (wrap64 ((wrap64 ((wrap64 ((wrap64 (x1 + 1)) + 1)) + 1)) + 1)) ((rd_T71 q5 x5).f3)).bind fun t6 => (laws_markPartRowS_o1.l4 k t6.1 (wrap64 (x5 + 1)) (q5.set x5.toNat (⟨(rd_T71 q5 x5).f0, (rd_T71 q5 x5).f1, (rd_T71 q5 x5).f2, t6.2⟩ : S71)))) else none) else none)) else none) else none)) else none) else none)) else none) else none)) else none) else none)) else (some (x1, h0))
def laws_markPartRowS_o1.f (k : Nat) (a1 : Int) (h0 : List S71) : Option (Int × (List S71)) := laws_markPartRowS_o1.l4 k a1 0 h0
def laws_markPartRowS_o1.c : FnD := { f := 60, sh := false, ps := [.vc (.c (.own 0)), .c (.int .i64)], pb := [.arr T71 .un], vc := .c (.int .i64), bs := [.arr T71 .un], R := Int × (List S71), fn := fun k x y => laws_markPartRowS_o1.f k x.2.1 y.1, out := fun y => (y.1, (y.2, ())), inn := fun d => (d.1, d.2.1), inv := fun _ => rfl }
theorem laws_markPartRowS_o1.ok : laws_markPartRowS_o1.c.OK Tryz.prog :=
  FnD.of laws_markPartRowS_o1.c mix tok (fn := Tryz.f60) Tryz.func60 (by kernel_rfl) (fun _ _ => by kernel_rfl) (by kernel_rfl) (by kernel_rfl) [laws_markWindowS_o1.c, laws_markText.c] ⟨laws_markWindowS_o1.ok, ⟨laws_markText.ok, trivial⟩⟩
    [{ lbl := 4, live := [(0, none), (1, none), (5, none)], ms := [], vs := [.c (.own 0), .c (.int .i64), .c (.int .i64)], bs := [.arr T71 .un], f := fun k x y => laws_markPartRowS_o1.l4 k x.2.1 x.2.2.1 y.1 }] { c := fun _ => none, cc := [], ms := [], tn := [], sh := false, fm := [] } rfl 5000 ⟨⟨fun _ _ => rfl, fun k x y => by kernel_rfl⟩, trivial⟩ (fun k x y => by kernel_rfl)

/-! ### loop.example/g00076/laws.markIntS: function 61 -/
def laws_markIntS_o1.l4 : Nat → Int → Int → (List Int) → Option (Int × (List Int))
  | 0, _, _, _ => none
  | k + 1, x1, x5, h0 => if x5 < (h0.length : Int) then (if 0 ≤ x5 then (if x5 < (h0.length : Int) then (laws_markIntS_o1.l4 k (wrap64 (x1 + 1)) (wrap64 (x5 + 1)) (h0.set x5.toNat x1)) else none) else none) else (some (x1, h0))
def laws_markIntS_o1.f (k : Nat) (a1 : Int) (h0 : List Int) : Option (Int × (List Int)) := laws_markIntS_o1.l4 k a1 0 h0
def laws_markIntS_o1.c : FnD := { f := 61, sh := false, ps := [.vc (.c (.own 0)), .c (.int .i64)], pb := [.arr (.int .i64) .un], vc := .c (.int .i64), bs := [.arr (.int .i64) .un], R := Int × (List Int), fn := fun k x y => laws_markIntS_o1.f k x.2.1 y.1, out := fun y => (y.1, (y.2, ())), inn := fun d => (d.1, d.2.1), inv := fun _ => rfl }
theorem laws_markIntS_o1.ok : laws_markIntS_o1.c.OK Tryz.prog :=
  FnD.of laws_markIntS_o1.c mix tok (fn := Tryz.f61) Tryz.func61 (by kernel_rfl) (fun _ _ => by kernel_rfl) (by kernel_rfl) (by kernel_rfl) [] trivial
    [{ lbl := 4, live := [(0, none), (1, none), (5, none)], ms := [], vs := [.c (.own 0), .c (.int .i64), .c (.int .i64)], bs := [.arr (.int .i64) .un], f := fun k x y => laws_markIntS_o1.l4 k x.2.1 x.2.2.1 y.1 }] { c := fun _ => none, cc := [], ms := [], tn := [], sh := false, fm := [] } rfl 5000 ⟨⟨fun _ _ => rfl, fun k x y => by kernel_rfl⟩, trivial⟩ (fun k x y => by kernel_rfl)

/-! ### loop.example/g00076/laws.markChanRowS: function 62 -/
def laws_markChanRowS_o1.l4 : Nat → Int → Int → (List S77) → Option (Int × (List S77))
  | 0, _, _, _ => none
  | k + 1, x1, x5, h0 => if x5 < (h0.length : Int) then (if 0 ≤ x5 then (if x5 < (h0.length : Int) then ((let q1 : List S77 := h0.set x5.toNat (⟨x1, (rd_T77 h0 x5).f1, (rd_T77 h0 x5).f2, (rd_T77 h0 x5).f3⟩ : S77); if 0 ≤ x5 then (if x5 < (q1.length : Int) then ((let q2 : List S77 := q1.set x5.toNat (⟨(rd_T77 q1 x5).f0, (wrap64 (x1 + 1)), (rd_T77 q1 x5).f2, (rd_T77 q1 x5).f3⟩ : S77); if 0 ≤ x5 then (if x5 < (q2.length : Int) then ((let q3 : List S77 := q2.set x5.toNat (⟨(rd_T77 q2 x5).f0, (rd_T77 q2 x5).f1, (wrap64 ((wrap64 (x1 + 1)) + 1)), (rd_T77 q2 x5).f3⟩ : S77); if 0 ≤ x5 then (if x5 < (q3.length : Int) then ((let q4 : List S77 := q3.set x5.toNat (⟨(rd_T77 q3 x5).f0, (rd_T77 q3 x5).f1, (rd_T77 q3 x5).f2, (wrap64 ((wrap64 ((wrap64 (x1 + 1)) + 1)) + 1))⟩ : S77); laws_markChanRowS_o1.l4 k (wrap64 ((wrap64 ((wrap64 ((wrap64 (x1 + 1)) + 1)) + 1)) + 1)) (wrap64 (x5 + 1)) q4)) else none) else none)) else none) else none)) else none) else none)) else none) else none) else (some (x1, h0))
def laws_markChanRowS_o1.f (k : Nat) (a1 : Int) (h0 : List S77) : Option (Int × (List S77)) := laws_markChanRowS_o1.l4 k a1 0 h0
def laws_markChanRowS_o1.c : FnD := { f := 62, sh := false, ps := [.vc (.c (.own 0)), .c (.int .i64)], pb := [.arr T77 .un], vc := .c (.int .i64), bs := [.arr T77 .un], R := Int × (List S77), fn := fun k x y => laws_markChanRowS_o1.f k x.2.1 y.1, out := fun y => (y.1, (y.2, ())), inn := fun d => (d.1, d.2.1), inv := fun _ => rfl }
theorem laws_markChanRowS_o1.ok : laws_markChanRowS_o1.c.OK Tryz.prog :=
  FnD.of laws_markChanRowS_o1.c mix tok (fn := Tryz.f62) Tryz.func62 (by kernel_rfl) (fun _ _ => by kernel_rfl) (by kernel_rfl) (by kernel_rfl) [] trivial
    [{ lbl := 4, live := [(0, none), (1, none), (5, none)], ms := [], vs := [.c (.own 0), .c (.int .i64), .c (.int .i64)], bs := [.arr T77 .un], f := fun k x y => laws_markChanRowS_o1.l4 k x.2.1 x.2.2.1 y.1 }] { c := fun _ => none, cc := [], ms := [], tn := [], sh := false, fm := [] } rfl 5000 ⟨⟨fun _ _ => rfl, fun k x y => by kernel_rfl⟩, trivial⟩ (fun k x y => by kernel_rfl)

/-! ### loop.example/g00076/laws.markSlotS: function 63 -/
def laws_markSlotS_o1.l4 : Nat → Int → Int → (List S182) → Option (Int × (List S182))
  | 0, _, _, _ => none
  | k + 1, x1, x5, h0 => if x5 < (lenZ h0) then (if 0 ≤ x5 then (if x5 < (h0.length : Int) then ((let q1 : List S182 := h0.set x5.toNat (⟨x1, (rd_T182 h0 x5).f1, (rd_T182 h0 x5).f2⟩ : S182); if 0 ≤ x5 then (if x5 < (q1.length : Int) then ((let q2 : List S182 := q1.set x5.toNat (⟨(rd_T182 q1 x5).f0, (wrap64 (x1 + 1)), (rd_T182 q1 x5).f2⟩ : S182); if 0 ≤ x5 then (if x5 < (q2.length : Int) then ((let q3 : List S182 := q2.set x5.toNat (⟨(rd_T182 q2 x5).f0, (rd_T182 q2 x5).f1, (wrap64 ((wrap64 (x1 + 1)) + 1))⟩ : S182); laws_markSlotS_o1.l4 k (wrap64 ((wrap64 ((wrap64 (x1 + 1)) + 1)) + 1)) (wrap64 (x5 + 1)) q3)) else none) else none)) else none) else none)) else none) else none) else (some (x1, h0))
def laws_markSlotS_o1.f (k : Nat) (a1 : Int) (h0 : List S182) : Option (Int × (List S182)) := laws_markSlotS_o1.l4 k a1 0 h0
def laws_markSlotS_o1.c : FnD := { f := 63, sh := false, ps := [.vc (.c (.own 0)), .c (.int .i64)], pb := [.arr T182 .un], vc := .c (.int .i64), bs := [.arr T182 .un], R := Int × (List S182), fn := fun k x y => laws_markSlotS_o1.f k x.2.1 y.1, out := fun y => (y.1, (y.2, ())), inn := fun d => (d.1, d.2.1), inv := fun _ => rfl }
theorem laws_markSlotS_o1.ok : laws_markSlotS_o1.c.OK Tryz.prog :=
  FnD.of laws_markSlotS_o1.c mix tok (fn := Tryz.f63) Tryz.func63 (by kernel_rfl) (fun _ _ => by kernel_rfl) (by kernel_rfl) (by kernel_rfl) [] trivial
    [{ lbl := 4, live := [(0, none), (1, none), (5, none)], ms := [], vs := [.c (.own 0), .c (.int .i64), .c (.int .i64)], bs := [.arr T182 .un], f := fun k x y => laws_markSlotS_o1.l4 k x.2.1 x.2.2.1 y.1 }] { c := fun _ => none, cc := [], ms := [], tn := [], sh := false, fm := [] } rfl 5000 ⟨⟨fun _ _ => rfl, fun k x y => by kernel_rfl⟩, trivial⟩ (fun k x y => by kernel_rfl)

/-! ### loop.example/g00076/laws.markTables: function 21 -/
def laws_markTables_o1.f (k : Nat) (a0_0 : Int) (a0_1 : Int) (a0_2 : Int) (a0_3 : Int) (a0_4 : Int) (a0_5 : Int) (a0_6 : Int) (a0_7 : Int) (a0_8 : Int) (a0_9 : Int) (a0_10 : Int) (a0_11 : Int) (a0_12 : Int) (a0_13 : Int) (a0_14 : Int) (a1 : Int) (h0 : List S71) (h1 : List Int) (h2 : List S77) (h3 : List S182) : Option (Int × (List S71) × (List Int) × (List S77) × (List S182)) := (laws_markPartRowS_o1.f k a1 h0).bind fun t1 => ((laws_markIntS_o1.f k t1.1 h1).bind fun t2 => ((laws_markChanRowS_o1.f k t2.1 h2).bind fun t3 => ((laws_markSlotS_o1.f k t3.1 h3).bind fun t4 => (some (t4.1, t1.2, t2.2, t3.2, t4.2)))))
def laws_markTables_o1.c : FnD := { f := 21, sh := false, ps := [.vc (.agg [.int .i64, .int .i64, .int .i64, .int .i64, .int .i64, .int .i64, .int .i64, .int .i64, .int .i64, .int .i64, .int .i64, .int .i64, .int .i64, .int .i64, .int .i64, .own 0, .own 1, .own 2, .own 3]), .c (.int .i64)], pb := [.arr T71 .un, .arr (.int .i64) .un, .arr T77 .un, .arr T182 .un], vc := .c (.int .i64), bs := [.arr T71 .un, .arr (.int .i64) .un, .arr T77 .un, .arr T182 .un], R := Int × (List S71) × (List Int) × (List S77) × (List S182), fn := fun k x y => laws_markTables_o1.f k x.1.1 x.1.2.1 x.1.2.2.1 x.1.2.2.2.1 x.1.2.2.2.2.1 x.1.2.2.2.2.2.1 x.1.2.2.2.2.2.2.1 x.1.2.2.2.2.2.2.2.1 x.1.2.2.2.2.2.2.2.2.1 x.1.2.2.2.2.2.2.2.2.2.1 x.1.2.2.2.2.2.2.2.2.2.2.1 x.1.2.2.2.2.2.2.2.2.2.2.2.1 x.1.2.2.2.2.2.2.2.2.2.2.2.2.1 x.1.2.2.2.2.2.2.2.2.2.2.2.2.2.1 x.1.2.2.2.2.2.2.2.2.2.2.2.2.2.2.1 x.2.1 y.1 y.2.1 y.2.2.1 y.2.2.2.1, out := fun y => (y.1, (y.2.1, y.2.2.1, y.2.2.2.1, y.2.2.2.2, ())), inn := fun d => (d.1, d.2.1, d.2.2.1, d.2.2.2.1, d.2.2.2.2.1), inv := fun _ => rfl }
theorem laws_markTables_o1.ok : laws_markTables_o1.c.OK Tryz.prog :=
  FnD.of laws_markTables_o1.c mix tok (fn := Tryz.f21) Tryz.func21 (by kernel_rfl) (fun _ _ => by kernel_rfl) (by kernel_rfl) (by kernel_rfl) [laws_markPartRowS_o1.c, laws_markIntS_o1.c, laws_markChanRowS_o1.c, laws_markSlotS_o1.c] ⟨laws_markPartRowS_o1.ok, ⟨laws_markIntS_o1.ok, ⟨laws_markChanRowS_o1.ok, ⟨laws_markSlotS_o1.ok, trivial⟩⟩⟩⟩
    [] { c := fun _ => none, cc := [], ms := [], tn := [], sh := false, fm := [] } rfl 5000 trivial (fun k x y => by kernel_rfl)

end
end Go.Proofs.YtcjfheidmlcbfaaGreatDoor.PPa
