/- Go functions as Lean functions, each with its contract. -/
import Derived.Test.YtebjmogdananjaaQAllx1
set_option linter.unusedVariables false
set_option maxRecDepth 100000
namespace Go.Proofs.Ytebjmogdananjaa.PAll
open Go Go.Proofs Go.RowKit Go.Proofs.Ytebjmogdananjaa.A
/-! ### loop.example/g00076/spec.l15Slot: function 69 -/
def spec_l15Slot.l6 : Nat → Int → Int → S33 → Option (Int)
  | 0, _, _, _ => none
  | k + 1, x5, x6, y0 => if x6 < (y0.f10.length : Int) then (if 0 ≤ x6 then (if x6 < (y0.f10.length : Int) then (if x5 ≥ (rd_T44 y0.f10 x6).f1 then (if 0 ≤ x6 then (if x6 < (y0.f10.length : Int) then (if 0 ≤ x6 then (if x6 < (y0.f10.length : Int) then (if x5 < (wrap64 (((rd_T44 y0.f10 x6).f1) + ((rd_T44 y0.f10 x6).f2))) then (some x6) else (spec_l15Slot.l6 k x5 (wrap64 (x6 + 1)) y0)) else none) else none) else none) else none) else (spec_l15Slot.l6 k x5 (wrap64 (x6 + 1)) y0)) else none) else none) else (some (-1))
def spec_l15Slot.f (k : Nat) (a0 : S33) (a1 : Int) : Option (Int) := if a0.f6 = 0 then none else (spec_l15Slot.l6 k (Int.tmod a1 a0.f6) 0 a0)
def spec_l15Slot.c : FnD := { f := 69, ps := [.agg T33, .c (.int .i64)], vc := .c (.int .i64), bs := [], R := Int, fn := fun k x => spec_l15Slot.f k x.1 x.2.1, out := fun y => (y, ()), inn := fun d => d.1, inv := fun _ => rfl }
theorem spec_l15Slot.ok : spec_l15Slot.c.OK Try.prog :=
  FnD.of spec_l15Slot.c mix tok (fn := Try.f69) Try.func69 (by kernel_rfl) (fun _ _ => by kernel_rfl) (by kernel_rfl) (by kernel_rfl) [] trivial
    [{ lbl := 6, live := [(2, none), (5, none), (6, none)], vs := [.c (.ptr 0 0), .c (.int .i64), .c (.int .i64)], bs := [.cells 33 [.int .i64, .int .i64, .int .i64, .int .i64, .int .i64, .int .i64, .int .i64, .int .i64, .int .i64, .int .i64, .int .i64, .int .i64, .int .i64, .int .i64, .int .i64, .sl false T118, .sl false (.int .i64), .sl false T39, .sl false T44]], f := fun k x y => spec_l15Slot.l6 k x.2.1 x.2.2.1 (y.1.1, (y.1.2.1, y.1.2.2.1, y.1.2.2.2.1), y.1.2.2.2.2.1, (y.1.2.2.2.2.2.1, y.1.2.2.2.2.2.2.1, y.1.2.2.2.2.2.2.2.1, y.1.2.2.2.2.2.2.2.2.1, y.1.2.2.2.2.2.2.2.2.2.1, y.1.2.2.2.2.2.2.2.2.2.2.1, y.1.2.2.2.2.2.2.2.2.2.2.2.1), y.1.2.2.2.2.2.2.2.2.2.2.2.2.1, y.1.2.2.2.2.2.2.2.2.2.2.2.2.2.1, y.1.2.2.2.2.2.2.2.2.2.2.2.2.2.2.1, y.1.2.2.2.2.2.2.2.2.2.2.2.2.2.2.2.1, y.1.2.2.2.2.2.2.2.2.2.2.2.2.2.2.2.2.1, y.1.2.2.2.2.2.2.2.2.2.2.2.2.2.2.2.2.2.1, y.1.2.2.2.2.2.2.2.2.2.2.2.2.2.2.2.2.2.2.1) }] (fun _ => none) 5000 ⟨⟨fun _ _ => rfl, fun k x y => by kernel_rfl⟩, trivial⟩ (fun k x => by kernel_rfl)

/-! ### loop.example/g00076/spec.l15Phase: function 128 -/
def spec_l15Phase.f (k : Nat) (a0 : S33) (a1 : Int) : Option (Int) := (spec_l15Slot.f k a0 a1).bind fun t1 => (if t1 < 0 then (some 0) else (if a0.f6 = 0 then none else (if 0 ≤ t1 then (if t1 < (a0.f10.length : Int) then (if (wrap64 ((Int.tmod a1 a0.f6) - ((rd_T44 a0.f10 t1).f1))) < a0.f4 then (some 1) else (if 0 ≤ t1 then (if t1 < (a0.f10.length : Int) then (if (wrap64 ((Int.tmod a1 a0.f6) - ((rd_T44 a0.f10 t1).f1))) ≥ (wrap64 (((rd_T44 a0.f10 t1).f2) - a0.f5)) then (some 3) else (some 2)) else none) else none)) else none) else none)))
def spec_l15Phase.c : FnD := { f := 128, ps := [.agg T33, .c (.int .i64)], vc := .c (.int .i64), bs := [], R := Int, fn := fun k x => spec_l15Phase.f k x.1 x.2.1, out := fun y => (y, ()), inn := fun d => d.1, inv := fun _ => rfl }
theorem spec_l15Phase.ok : spec_l15Phase.c.OK Try.prog :=
  FnD.of spec_l15Phase.c mix tok (fn := Try.f128) Try.func128 (by kernel_rfl) (fun _ _ => by kernel_rfl) (by kernel_rfl) (by kernel_rfl) [spec_l15Slot.c] ⟨spec_l15Slot.ok, trivial⟩
    [] (fun _ => none) 5000 trivial (fun k x => by kernel_rfl)

/-! ### loop.example/g00076/spec.l15Begin: function 93 -/
def spec_l15Begin.f (k : Nat) (a0 : S33) (a1 : Int) : Option (Int) := (spec_l15Phase.f k a0 a1).bind fun t1 => (if t1 = 2 then ((spec_l15Slot.f k a0 a1).bind fun t2 => (if 0 ≤ t2 then (if t2 < (a0.f10.length : Int) then (some ((rd_T44 a0.f10 t2).f0)) else none) else none)) else (some (-1)))
def spec_l15Begin.c : FnD := { f := 93, ps := [.agg T33, .c (.int .i64)], vc := .c (.int .i64), bs := [], R := Int, fn := fun k x => spec_l15Begin.f k x.1 x.2.1, out := fun y => (y, ()), inn := fun d => d.1, inv := fun _ => rfl }
theorem spec_l15Begin.ok : spec_l15Begin.c.OK Try.prog :=
  FnD.of spec_l15Begin.c mix tok (fn := Try.f93) Try.func93 (by kernel_rfl) (fun _ _ => by kernel_rfl) (by kernel_rfl) (by kernel_rfl) [spec_l15Phase.c, spec_l15Slot.c] ⟨spec_l15Phase.ok, ⟨spec_l15Slot.ok, trivial⟩⟩
    [] (fun _ => none) 5000 trivial (fun k x => by kernel_rfl)

/-! ### loop.example/g00076/spec.Latency: function 38 -/
def spec_Latency.l10 : Nat → Int → Int → Int → Int → Int → S33 → Option (Int)
  | 0, _, _, _, _, _, _ => none
  | k + 1, x1, x5, x6, x7, x8, y0 => if x8 < y0.f6 then ((spec_l15Begin.f k y0 x8).bind fun t2 => (if t2 = x1 then (if x1 < 0 then (spec_Latency.l10 k x1 x5 x6 x7 (wrap64 (x8 + 1)) y0) else (if x6 < 0 then (spec_Latency.l10 k x1 x8 x8 x7 (wrap64 (x8 + 1)) y0) else (if (wrap64 ((wrap64 (x8 - x5)) - 1)) > x7 then (spec_Latency.l10 k x1 x8 x6 (wrap64 ((wrap64 (x8 - x5)) - 1)) (wrap64 (x8 + 1)) y0) else (spec_Latency.l10 k x1 x8 x6 x7 (wrap64 (x8 + 1)) y0)))) else (spec_Latency.l10 k x1 x5 x6 x7 (wrap64 (x8 + 1)) y0))) else (if x6 < 0 then (some (-1)) else (if (wrap64 ((wrap64 ((wrap64 (y0.f6 - 1)) - x5)) + x6)) > x7 then (some (wrap64 ((wrap64 ((wrap64 (y0.f6 - 1)) - x5)) + x6))) else (some x7)))
def spec_Latency.f (k : Nat) (a0 : S33) (a1 : Int) : Option (Int) := (spec_Sound.f k a0).bind fun t1 => (if t1 = true then (spec_Latency.l10 k a1 (-1) (-1) 0 0 a0) else (some (-1)))
def spec_Latency.c : FnD := { f := 38, ps := [.agg T33, .c (.int .i64)], vc := .c (.int .i64), bs := [], R := Int, fn := fun k x => spec_Latency.f k x.1 x.2.1, out := fun y => (y, ()), inn := fun d => d.1, inv := fun _ => rfl }
theorem spec_Latency.ok : spec_Latency.c.OK Try.prog :=
  FnD.of spec_Latency.c mix tok (fn := Try.f38) Try.func38 (by kernel_rfl) (fun _ _ => by kernel_rfl) (by kernel_rfl) (by kernel_rfl) [spec_Sound.c, spec_l15Begin.c] ⟨spec_Sound.ok, ⟨spec_l15Begin.ok, trivial⟩⟩
    [{ lbl := 10, live := [(1, none), (2, none), (5, none), (6, none), (7, none), (8, none)], vs := [.c (.int .i64), .c (.ptr 0 0), .c (.int .i64), .c (.int .i64), .c (.int .i64), .c (.int .i64)], bs := [.cells 33 [.int .i64, .int .i64, .int .i64, .int .i64, .int .i64, .int .i64, .int .i64, .int .i64, .int .i64, .int .i64, .int .i64, .int .i64, .int .i64, .int .i64, .int .i64, .sl false T118, .sl false (.int .i64), .sl false T39, .sl false T44]], f := fun k x y => spec_Latency.l10 k x.1 x.2.2.1 x.2.2.2.1 x.2.2.2.2.1 x.2.2.2.2.2.1 (y.1.1, (y.1.2.1, y.1.2.2.1, y.1.2.2.2.1), y.1.2.2.2.2.1, (y.1.2.2.2.2.2.1, y.1.2.2.2.2.2.2.1, y.1.2.2.2.2.2.2.2.1, y.1.2.2.2.2.2.2.2.2.1, y.1.2.2.2.2.2.2.2.2.2.1, y.1.2.2.2.2.2.2.2.2.2.2.1, y.1.2.2.2.2.2.2.2.2.2.2.2.1), y.1.2.2.2.2.2.2.2.2.2.2.2.2.1, y.1.2.2.2.2.2.2.2.2.2.2.2.2.2.1, y.1.2.2.2.2.2.2.2.2.2.2.2.2.2.2.1, y.1.2.2.2.2.2.2.2.2.2.2.2.2.2.2.2.1, y.1.2.2.2.2.2.2.2.2.2.2.2.2.2.2.2.2.1, y.1.2.2.2.2.2.2.2.2.2.2.2.2.2.2.2.2.2.1, y.1.2.2.2.2.2.2.2.2.2.2.2.2.2.2.2.2.2.2.1) }] (fun _ => none) 5000 ⟨⟨fun _ _ => rfl, fun k x y => by kernel_rfl⟩, trivial⟩ (fun k x => by kernel_rfl)

/-! ### loop.example/g00076/impl.within: function 52 -/
def impl_within.f (a0 : Int) (a1 : Int) (a2 : Int) : Option (Bool) := if a0 ≥ a1 then (some (decide (a0 ≤ a2))) else (some false)
def impl_within.c : FnD := { f := 52, ps := [.c (.int .i64), .c (.int .i64), .c (.int .i64)], vc := .c (.bool), bs := [], R := Bool, fn := fun _ x => impl_within.f x.1 x.2.1 x.2.2.1, out := fun y => (y, ()), inn := fun d => d.1, inv := fun _ => rfl }
theorem impl_within.ok : impl_within.c.OK Try.prog :=
  FnD.of impl_within.c mix tok (fn := Try.f52) Try.func52 (by kernel_rfl) (fun _ _ => by kernel_rfl) (by kernel_rfl) (by kernel_rfl) [] trivial
    [] (fun _ => none) 5000 trivial (fun k x => by kernel_rfl)

/-! ### loop.example/g00076/impl.isMem: function 104 -/
def impl_isMem.f (a0 : Int) : Option (Bool) := (impl_within.f a0 64 2048).bind fun t1 => (if t1 = true then (some (decide ((Int.tmod a0 4) = 0))) else (some false))
def impl_isMem.c : FnD := { f := 104, ps := [.c (.int .i64)], vc := .c (.bool), bs := [], R := Bool, fn := fun _ x => impl_isMem.f x.1, out := fun y => (y, ()), inn := fun d => d.1, inv := fun _ => rfl }
theorem impl_isMem.ok : impl_isMem.c.OK Try.prog :=
  FnD.of impl_isMem.c mix tok (fn := Try.f104) Try.func104 (by kernel_rfl) (fun _ _ => by kernel_rfl) (by kernel_rfl) (by kernel_rfl) [impl_within.c] ⟨impl_within.ok, trivial⟩
    [] (fun _ => none) 5000 trivial (fun k x => by kernel_rfl)

/-! ### loop.example/g00076/impl.isPower: function 146 -/
def impl_isPower.f (a0 : Int) : Option (Bool) := if a0 > 0 then (some (decide ((bitAnd .i64 a0 (wrap64 (a0 - 1))) = 0))) else (some false)
def impl_isPower.c : FnD := { f := 146, ps := [.c (.int .i64)], vc := .c (.bool), bs := [], R := Bool, fn := fun _ x => impl_isPower.f x.1, out := fun y => (y, ()), inn := fun d => d.1, inv := fun _ => rfl }
theorem impl_isPower.ok : impl_isPower.c.OK Try.prog :=
  FnD.of impl_isPower.c mix tok (fn := Try.f146) Try.func146 (by kernel_rfl) (fun _ _ => by kernel_rfl) (by kernel_rfl) (by kernel_rfl) [] trivial
    [] (fun _ => none) 5000 trivial (fun k x => by kernel_rfl)

/-! ### loop.example/g00076/impl.isShape: function 105 -/
def impl_isShape.f (a0 : S25) : Option (Bool) := (impl_within.f a0.f0 1 16).bind fun t1 => (if t1 = true then ((impl_isPower.f a0.f0).bind fun t2 => (if t2 = true then ((impl_within.f a0.f1 1 4).bind fun t3 => (if t3 = true then ((impl_within.f a0.f2 4 32).bind fun t4 => (if t4 = true then ((impl_isPower.f a0.f2).bind fun t5 => (some t5)) else (some false))) else (some false))) else (some false))) else (some false))
def impl_isShape.c : FnD := { f := 105, ps := [.agg T25], vc := .c (.bool), bs := [], R := Bool, fn := fun _ x => impl_isShape.f x.1, out := fun y => (y, ()), inn := fun d => d.1, inv := fun _ => rfl }
theorem impl_isShape.ok : impl_isShape.c.OK Try.prog :=
  FnD.of impl_isShape.c mix tok (fn := Try.f105) Try.func105 (by kernel_rfl) (fun _ _ => by kernel_rfl) (by kernel_rfl) (by kernel_rfl) [impl_within.c, impl_isPower.c] ⟨impl_within.ok, ⟨impl_isPower.ok, trivial⟩⟩
    [] (fun _ => none) 5000 trivial (fun k x => by kernel_rfl)

/-! ### loop.example/g00076/impl.areCosts: function 106 -/
def impl_areCosts.l4 : Nat → Int → Int → Int → Int → Int → Int → Int → S27 → Option (Bool)
  | 0, _, _, _, _, _, _, _, _ => none
  | k + 1, x17_0, x17_1, x17_2, x17_3, x17_4, x17_5, x18, y0 => if x18 < 6 then (if 0 ≤ x18 then (if x18 < ((6 : Nat) : Int) then ((impl_within.f (([x17_0, x17_1, x17_2, x17_3, x17_4, x17_5] : List Int).getD x18.toNat 0) 0 50).bind fun t1 => (if t1 = true then (impl_areCosts.l4 k x17_0 x17_1 x17_2 x17_3 x17_4 x17_5 (wrap64 (x18 + 1)) y0) else (some false))) else none) else none) else ((impl_within.f y0.f0 1 20).bind fun t2 => (some t2))
def impl_areCosts.f (k : Nat) (a0 : S27) : Option (Bool) := impl_areCosts.l4 k a0.f1 a0.f2 a0.f3 a0.f4 a0.f5 a0.f6 0 a0
def impl_areCosts.c : FnD := { f := 106, ps := [.agg T27], vc := .c (.bool), bs := [], R := Bool, fn := fun k x => impl_areCosts.f k x.1, out := fun y => (y, ()), inn := fun d => d.1, inv := fun _ => rfl }
theorem impl_areCosts.ok : impl_areCosts.c.OK Try.prog :=
  FnD.of impl_areCosts.c mix tok (fn := Try.f106) Try.func106 (by kernel_rfl) (fun _ _ => by kernel_rfl) (by kernel_rfl) (by kernel_rfl) [impl_within.c] ⟨impl_within.ok, trivial⟩
    [{ lbl := 4, live := [(1, none), (17, none), (18, none)], vs := [.c (.ptr 0 0), .agg [.int .i64, .int .i64, .int .i64, .int .i64, .int .i64, .int .i64], .c (.int .i64)], bs := [.cells 27 [.int .i64, .int .i64, .int .i64, .int .i64, .int .i64, .int .i64, .int .i64]], f := fun k x y => impl_areCosts.l4 k x.2.1.1 x.2.1.2.1 x.2.1.2.2.1 x.2.1.2.2.2.1 x.2.1.2.2.2.2.1 x.2.1.2.2.2.2.2.1 x.2.2.1 (y.1.1, y.1.2.1, y.1.2.2.1, y.1.2.2.2.1, y.1.2.2.2.2.1, y.1.2.2.2.2.2.1, y.1.2.2.2.2.2.2.1) }] (fun _ => none) 5000 ⟨⟨fun _ _ => rfl, fun k x y => by kernel_rfl⟩, trivial⟩ (fun k x => by kernel_rfl)

/-! ### loop.example/g00076/impl.isSpan: function 107 -/
def impl_isSpan.f (a0 : Int) : Option (Bool) := (impl_within.f a0 1 5000).bind fun t1 => (some t1)
def impl_isSpan.c : FnD := { f := 107, ps := [.c (.int .i64)], vc := .c (.bool), bs := [], R := Bool, fn := fun _ x => impl_isSpan.f x.1, out := fun y => (y, ()), inn := fun d => d.1, inv := fun _ => rfl }
theorem impl_isSpan.ok : impl_isSpan.c.OK Try.prog :=
  FnD.of impl_isSpan.c mix tok (fn := Try.f107) Try.func107 (by kernel_rfl) (fun _ _ => by kernel_rfl) (by kernel_rfl) (by kernel_rfl) [impl_within.c] ⟨impl_within.ok, trivial⟩
    [] (fun _ => none) 5000 trivial (fun k x => by kernel_rfl)

/-! ### loop.example/g00076/impl.opCost: function 171 -/
def impl_opCost.f (a0 : S27) (a1 : Int) : Option (Int) := if a1 = 9 then (some (wrap64 (a0.f0 + a0.f1))) else (if a1 = 10 then (some (wrap64 (a0.f0 + a0.f1))) else ((impl_within.f a1 15 18).bind fun t1 => (if t1 = true then (some (wrap64 (a0.f0 + a0.f2))) else (if a1 ≥ 25 then (some (wrap64 (a0.f0 + a0.f5))) else (some a0.f0)))))
def impl_opCost.c : FnD := { f := 171, ps := [.agg T27, .c (.int .i64)], vc := .c (.int .i64), bs := [], R := Int, fn := fun _ x => impl_opCost.f x.1 x.2.1, out := fun y => (y, ()), inn := fun d => d.1, inv := fun _ => rfl }
theorem impl_opCost.ok : impl_opCost.c.OK Try.prog :=
  FnD.of impl_opCost.c mix tok (fn := Try.f171) Try.func171 (by kernel_rfl) (fun _ _ => by kernel_rfl) (by kernel_rfl) (by kernel_rfl) [impl_within.c] ⟨impl_within.ok, trivial⟩
    [] (fun _ => none) 5000 trivial (fun k x => by kernel_rfl)

/-! ### loop.example/g00076/impl.accessCost: function 172 -/
def impl_accessCost.f (a0 : S27) (a1 : S180) : Option (Int) := if a1.f0 = true then (if a1.f1 = true then (if a1.f2 = true then (some (wrap64 (0 + a0.f6))) else (some 0)) else (if a1.f2 = true then (some (wrap64 ((wrap64 (0 + a0.f4)) + a0.f6))) else (some (wrap64 (0 + a0.f4))))) else (if a1.f1 = true then (if a1.f2 = true then (some (wrap64 ((wrap64 (0 + a0.f3)) + a0.f6))) else (some (wrap64 (0 + a0.f3)))) else (if a1.f2 = true then (some (wrap64 ((wrap64 ((wrap64 (0 + a0.f3)) + a0.f4)) + a0.f6))) else (some (wrap64 ((wrap64 (0 + a0.f3)) + a0.f4)))))
def impl_accessCost.c : FnD := { f := 172, ps := [.agg T27, .agg T180], vc := .c (.int .i64), bs := [], R := Int, fn := fun _ x => impl_accessCost.f x.1 x.2.1, out := fun y => (y, ()), inn := fun d => d.1, inv := fun _ => rfl }
theorem impl_accessCost.ok : impl_accessCost.c.OK Try.prog :=
  FnD.of impl_accessCost.c mix tok (fn := Try.f172) Try.func172 (by kernel_rfl) (fun _ _ => by kernel_rfl) (by kernel_rfl) (by kernel_rfl) [] trivial
    [] (fun _ => none) 5000 trivial (fun k x => by kernel_rfl)

/-! ### loop.example/g00076/impl.WorstStep: function 147 -/
def impl_WorstStep.l10 : Nat → Int → Int → S27 → Option (Int)
  | 0, _, _, _ => none
  | k + 1, x3, x8, y0 => if x8 < 33 then ((impl_opCost.f y0 x8).bind fun t2 => (impl_WorstStep.l10 k (mx x3 t2) (wrap64 (x8 + 1)) y0)) else ((impl_accessCost.f y0 (⟨false, false, true⟩ : S180)).bind fun t3 => (some (wrap64 ((wrap64 (x3 + (wrap64 (2 * t3)))) + y0.f5))))
def impl_WorstStep.f (k : Nat) (a0 : S27) : Option (Int) := (impl_areCosts.f k a0).bind fun t1 => (if t1 = true then (impl_WorstStep.l10 k 0 0 a0) else (some (-1)))
def impl_WorstStep.c : FnD := { f := 147, ps := [.agg T27], vc := .c (.int .i64), bs := [], R := Int, fn := fun k x => impl_WorstStep.f k x.1, out := fun y => (y, ()), inn := fun d => d.1, inv := fun _ => rfl }
theorem impl_WorstStep.ok : impl_WorstStep.c.OK Try.prog :=
  FnD.of impl_WorstStep.c mix tok (fn := Try.f147) Try.func147 (by kernel_rfl) (fun _ _ => by kernel_rfl) (by kernel_rfl) (by kernel_rfl) [impl_areCosts.c, impl_opCost.c, impl_accessCost.c] ⟨impl_areCosts.ok, ⟨impl_opCost.ok, ⟨impl_accessCost.ok, trivial⟩⟩⟩
    [{ lbl := 10, live := [(1, none), (3, none), (8, none)], vs := [.c (.ptr 0 0), .c (.int .i64), .c (.int .i64)], bs := [.cells 27 [.int .i64, .int .i64, .int .i64, .int .i64, .int .i64, .int .i64, .int .i64]], f := fun k x y => impl_WorstStep.l10 k x.2.1 x.2.2.1 (y.1.1, y.1.2.1, y.1.2.2.1, y.1.2.2.2.1, y.1.2.2.2.2.1, y.1.2.2.2.2.2.1, y.1.2.2.2.2.2.2.1) }] (fun _ => none) 5000 ⟨⟨fun _ _ => rfl, fun k x y => by kernel_rfl⟩, trivial⟩ (fun k x => by kernel_rfl)

/-! ### loop.example/g00076/impl.worstStep: function 108 -/
def impl_worstStep.f (k : Nat) (a0 : S27) : Option (Int) := (impl_WorstStep.f k a0).bind fun t1 => (some t1)
def impl_worstStep.c : FnD := { f := 108, ps := [.agg T27], vc := .c (.int .i64), bs := [], R := Int, fn := fun k x => impl_worstStep.f k x.1, out := fun y => (y, ()), inn := fun d => d.1, inv := fun _ => rfl }
theorem impl_worstStep.ok : impl_worstStep.c.OK Try.prog :=
  FnD.of impl_worstStep.c mix tok (fn := Try.f108) Try.func108 (by kernel_rfl) (fun _ _ => by kernel_rfl) (by kernel_rfl) (by kernel_rfl) [impl_WorstStep.c] ⟨impl_WorstStep.ok, trivial⟩
    [] (fun _ => none) 5000 trivial (fun k x => by kernel_rfl)

/-! ### loop.example/g00076/impl.isLabel: function 173 -/
def impl_isLabel.l4 : Nat → ByteArray → Int → Int → Option (Bool)
  | 0, _, _, _ => none
  | k + 1, x0, x5, x6 => if x6 < x5 then (if 0 ≤ x6 then (if x6 < (x0.size : Int) then (if (bt x0 x6) < 97 then (some false) else (if 0 ≤ x6 then (if x6 < (x0.size : Int) then (if (bt x0 x6) > 122 then (some false) else (impl_isLabel.l4 k x0 x5 (wrap64 (x6 + 1)))) else none) else none)) else none) else none) else ((impl_within.f (x0.size : Int) 1 12).bind fun t1 => (some t1))
def impl_isLabel.f (k : Nat) (a0 : ByteArray) : Option (Bool) := impl_isLabel.l4 k a0 (a0.size : Int) 0
def impl_isLabel.c : FnD := { f := 173, ps := [.c .str], vc := .c (.bool), bs := [], R := Bool, fn := fun k x => impl_isLabel.f k x.1, out := fun y => (y, ()), inn := fun d => d.1, inv := fun _ => rfl }
theorem impl_isLabel.ok : impl_isLabel.c.OK Try.prog :=
  FnD.of impl_isLabel.c mix tok (fn := Try.f173) Try.func173 (by kernel_rfl) (fun _ _ => by kernel_rfl) (by kernel_rfl) (by kernel_rfl) [impl_within.c] ⟨impl_within.ok, trivial⟩
    [{ lbl := 4, live := [(0, none), (5, none), (6, none)], vs := [.c (.str), .c (.int .i64), .c (.int .i64)], bs := [], f := fun k x y => impl_isLabel.l4 k x.1 x.2.1 x.2.2.1 }] (fun _ => none) 5000 ⟨⟨fun _ _ => rfl, fun k x y => by kernel_rfl⟩, trivial⟩ (fun k x => by kernel_rfl)

/-! ### loop.example/g00076/impl.isName: function 148 -/
def impl_isName.f (k : Nat) (a0 : ByteArray) : Option (Bool) := (impl_isLabel.f k a0).bind fun t1 => (if t1 = true then (some (decide ((a0.size : Int) ≤ 8))) else (some false))
def impl_isName.c : FnD := { f := 148, ps := [.c .str], vc := .c (.bool), bs := [], R := Bool, fn := fun k x => impl_isName.f k x.1, out := fun y => (y, ()), inn := fun d => d.1, inv := fun _ => rfl }
theorem impl_isName.ok : impl_isName.c.OK Try.prog :=
  FnD.of impl_isName.c mix tok (fn := Try.f148) Try.func148 (by kernel_rfl) (fun _ _ => by kernel_rfl) (by kernel_rfl) (by kernel_rfl) [impl_isLabel.c] ⟨impl_isLabel.ok, trivial⟩
    [] (fun _ => none) 5000 trivial (fun k x => by kernel_rfl)

/-! ### loop.example/g00076/impl.partNamed$1: function 175 -/
def impl_partNamed_1.f (a0 : S118) (c1 : ByteArray) : Option (Bool) := some (decide (a0.f0 = c1))
def impl_partNamed_1.c : FnD := { f := 175, ps := [.agg T118, .cap .str], vc := .c (.bool), bs := [], R := Bool, fn := fun _ x => impl_partNamed_1.f x.1 x.2.1, out := fun y => (y, ()), inn := fun d => d.1, inv := fun _ => rfl }
theorem impl_partNamed_1.ok : impl_partNamed_1.c.OK Try.prog :=
  FnD.of impl_partNamed_1.c mix tok (fn := Try.f175) Try.func175 (by kernel_rfl) (fun _ _ => by kernel_rfl) (by kernel_rfl) (by kernel_rfl) [] trivial
    [] (fun _ => none) 5000 trivial (fun k x => by kernel_rfl)

/-! ### slices.IndexFunc[[]loop.example/g00076/impl.PartRow,loop.example/g00076/impl.PartRow]: function 174 -/
def slices_IndexFunc_174_175.l4 : Nat → (List S118) → ByteArray → Int → Int → Option (Int)
  | 0, _, _, _, _ => none
  | k + 1, x0, x1_0, x7, x8 => if x8 < x7 then (if 0 ≤ x8 then (if x8 < (x0.length : Int) then ((impl_partNamed_1.f (rd_T118 x0 x8) x1_0).bind fun t1 => (if t1 = true then (some x8) else (slices_IndexFunc_174_175.l4 k x0 x1_0 x7 (wrap64 (x8 + 1))))) else none) else none) else (some (-1))
def slices_IndexFunc_174_175.f (k : Nat) (a0 : List S118) (p1_0 : ByteArray) : Option (Int) := slices_IndexFunc_174_175.l4 k a0 p1_0 (a0.length : Int) 0
def slices_IndexFunc_174_175.c : FnD := { f := 174, ps := [.c (.sl T118), .fn 175 [.str]], vc := .c (.int .i64), bs := [], R := Int, fn := fun k x => slices_IndexFunc_174_175.f k x.1 x.2.1.1, out := fun y => (y, ()), inn := fun d => d.1, inv := fun _ => rfl }
theorem slices_IndexFunc_174_175.ok : slices_IndexFunc_174_175.c.OK Try.prog :=
  FnD.of slices_IndexFunc_174_175.c mix tok (fn := Try.f174) Try.func174 (by kernel_rfl) (fun _ _ => by kernel_rfl) (by kernel_rfl) (by kernel_rfl) [impl_partNamed_1.c] ⟨impl_partNamed_1.ok, trivial⟩
    [{ lbl := 4, live := [(0, none), (1, none), (7, none), (8, none)], vs := [.c (.sl false T118), .c (.fn 175 [.str]), .c (.int .i64), .c (.int .i64)], bs := [], f := fun k x y => slices_IndexFunc_174_175.l4 k x.1 x.2.1.1 x.2.2.1 x.2.2.2.1 }] (fun _ => none) 5000 ⟨⟨fun _ _ => rfl, fun k x y => by kernel_rfl⟩, trivial⟩ (fun k x => by kernel_rfl)

/-! ### loop.example/g00076/impl.partNamed: function 149 -/
def impl_partNamed.f (k : Nat) (a0 : S33) (a1 : ByteArray) : Option (Int) := (slices_IndexFunc_174_175.f k a0.f7 a1).bind fun t1 => (some t1)
def impl_partNamed.c : FnD := { f := 149, ps := [.agg T33, .c .str], vc := .c (.int .i64), bs := [], R := Int, fn := fun k x => impl_partNamed.f k x.1 x.2.1, out := fun y => (y, ()), inn := fun d => d.1, inv := fun _ => rfl }
theorem impl_partNamed.ok : impl_partNamed.c.OK Try.prog :=
  FnD.of impl_partNamed.c mix tok (fn := Try.f149) Try.func149 (by kernel_rfl) (fun _ _ => by kernel_rfl) (by kernel_rfl) (by kernel_rfl) [slices_IndexFunc_174_175.c] ⟨slices_IndexFunc_174_175.ok, trivial⟩
    [] (fun _ => none) 5000 trivial (fun k x => by kernel_rfl)

/-! ### loop.example/g00076/impl.isPolicy: function 150 -/
def impl_isPolicy.f (a0 : S115) : Option (Bool) := if a0.f0 = 1 then ((impl_within.f a0.f1 0 100).bind fun t1 => (some t1)) else (if a0.f0 = 0 then (some (decide (a0.f1 = 0))) else (if a0.f0 = 2 then (some (decide (a0.f1 = 0))) else (some false)))
def impl_isPolicy.c : FnD := { f := 150, ps := [.agg T115], vc := .c (.bool), bs := [], R := Bool, fn := fun _ x => impl_isPolicy.f x.1, out := fun y => (y, ()), inn := fun d => d.1, inv := fun _ => rfl }
theorem impl_isPolicy.ok : impl_isPolicy.c.OK Try.prog :=
  FnD.of impl_isPolicy.c mix tok (fn := Try.f150) Try.func150 (by kernel_rfl) (fun _ _ => by kernel_rfl) (by kernel_rfl) (by kernel_rfl) [impl_within.c] ⟨impl_within.ok, trivial⟩
    [] (fun _ => none) 5000 trivial (fun k x => by kernel_rfl)

/-! ### loop.example/g00076/impl.isWindow: function 151 -/
def impl_isWindow.f (a0 : S120) : Option (Bool) := (impl_within.f a0.f1 4 2048).bind fun t1 => (if t1 = true then (if (Int.tmod a0.f1 4) = 0 then ((impl_within.f a0.f0 0 (wrap64 (2048 - a0.f1))).bind fun t2 => (if t2 = true then (if (Int.tmod a0.f0 4) = 0 then ((impl_within.f a0.f2 1 7).bind fun t3 => (some t3)) else (some false)) else (some false))) else (some false)) else (some false))
def impl_isWindow.c : FnD := { f := 151, ps := [.agg T120], vc := .c (.bool), bs := [], R := Bool, fn := fun _ x => impl_isWindow.f x.1, out := fun y => (y, ()), inn := fun d => d.1, inv := fun _ => rfl }
theorem impl_isWindow.ok : impl_isWindow.c.OK Try.prog :=
  FnD.of impl_isWindow.c mix tok (fn := Try.f151) Try.func151 (by kernel_rfl) (fun _ _ => by kernel_rfl) (by kernel_rfl) (by kernel_rfl) [impl_within.c] ⟨impl_within.ok, trivial⟩
    [] (fun _ => none) 5000 trivial (fun k x => by kernel_rfl)

/-! ### loop.example/g00076/impl.areApart: function 154 -/
def impl_areApart.f (a0 : S120) (a1 : S120) : Option (Bool) := if (wrap64 (a0.f0 + a0.f1)) ≤ a1.f0 then (some true) else (some (decide ((wrap64 (a1.f0 + a1.f1)) ≤ a0.f0)))
def impl_areApart.c : FnD := { f := 154, ps := [.agg T120, .agg T120], vc := .c (.bool), bs := [], R := Bool, fn := fun _ x => impl_areApart.f x.1 x.2.1, out := fun y => (y, ()), inn := fun d => d.1, inv := fun _ => rfl }
theorem impl_areApart.ok : impl_areApart.c.OK Try.prog :=
  FnD.of impl_areApart.c mix tok (fn := Try.f154) Try.func154 (by kernel_rfl) (fun _ _ => by kernel_rfl) (by kernel_rfl) (by kernel_rfl) [] trivial
    [] (fun _ => none) 5000 trivial (fun k x => by kernel_rfl)

/-! ### loop.example/g00076/impl.areParts$1: function 153 -/
def impl_areParts_1.f (a0 : S120) (c1 : S120) : Option (Bool) := (impl_areApart.f a0 c1).bind fun t1 => (some (!t1))
def impl_areParts_1.c : FnD := { f := 153, ps := [.agg T120, .cap T120], vc := .c (.bool), bs := [], R := Bool, fn := fun _ x => impl_areParts_1.f x.1 x.2.1, out := fun y => (y, ()), inn := fun d => d.1, inv := fun _ => rfl }
theorem impl_areParts_1.ok : impl_areParts_1.c.OK Try.prog :=
  FnD.of impl_areParts_1.c mix tok (fn := Try.f153) Try.func153 (by kernel_rfl) (fun _ _ => by kernel_rfl) (by kernel_rfl) (by kernel_rfl) [impl_areApart.c] ⟨impl_areApart.ok, trivial⟩
    [] (fun _ => none) 5000 trivial (fun k x => by kernel_rfl)

/-! ### slices.IndexFunc[[]loop.example/g00076/impl.Window,loop.example/g00076/impl.Window]: function 176 -/
def slices_IndexFunc_176_153.l4 : Nat → (List S120) → S120 → Int → Int → Option (Int)
  | 0, _, _, _, _ => none
  | k + 1, x0, x1_0, x7, x8 => if x8 < x7 then (if 0 ≤ x8 then (if x8 < (x0.length : Int) then ((impl_areParts_1.f (rd_T120 x0 x8) x1_0).bind fun t1 => (if t1 = true then (some x8) else (slices_IndexFunc_176_153.l4 k x0 x1_0 x7 (wrap64 (x8 + 1))))) else none) else none) else (some (-1))
def slices_IndexFunc_176_153.f (k : Nat) (a0 : List S120) (p1_0 : S120) : Option (Int) := slices_IndexFunc_176_153.l4 k a0 p1_0 (a0.length : Int) 0
def slices_IndexFunc_176_153.c : FnD := { f := 176, ps := [.c (.sl T120), .fn 153 [T120]], vc := .c (.int .i64), bs := [], R := Int, fn := fun k x => slices_IndexFunc_176_153.f k x.1 x.2.1.1, out := fun y => (y, ()), inn := fun d => d.1, inv := fun _ => rfl }
theorem slices_IndexFunc_176_153.ok : slices_IndexFunc_176_153.c.OK Try.prog :=
  FnD.of slices_IndexFunc_176_153.c mix tok (fn := Try.f176) Try.func176 (by kernel_rfl) (fun _ _ => by kernel_rfl) (by kernel_rfl) (by kernel_rfl) [impl_areParts_1.c] ⟨impl_areParts_1.ok, trivial⟩
    [{ lbl := 4, live := [(0, none), (1, none), (7, none), (8, none)], vs := [.c (.sl false T120), .c (.fn 153 [T120]), .c (.int .i64), .c (.int .i64)], bs := [], f := fun k x y => slices_IndexFunc_176_153.l4 k x.1 x.2.1.1 x.2.2.1 x.2.2.2.1 }] (fun _ => none) 5000 ⟨⟨fun _ _ => rfl, fun k x y => by kernel_rfl⟩, trivial⟩ (fun k x => by kernel_rfl)

/-! ### slices.ContainsFunc[[]loop.example/g00076/impl.Window,loop.example/g00076/impl.Window]: function 152 -/
def slices_ContainsFunc_152_153.f (k : Nat) (a0 : List S120) (p1_0 : S120) : Option (Bool) := (slices_IndexFunc_176_153.f k a0 p1_0).bind fun t1 => (some (decide (t1 ≥ 0)))
def slices_ContainsFunc_152_153.c : FnD := { f := 152, ps := [.c (.sl T120), .fn 153 [T120]], vc := .c (.bool), bs := [], R := Bool, fn := fun k x => slices_ContainsFunc_152_153.f k x.1 x.2.1.1, out := fun y => (y, ()), inn := fun d => d.1, inv := fun _ => rfl }
theorem slices_ContainsFunc_152_153.ok : slices_ContainsFunc_152_153.c.OK Try.prog :=
  FnD.of slices_ContainsFunc_152_153.c mix tok (fn := Try.f152) Try.func152 (by kernel_rfl) (fun _ _ => by kernel_rfl) (by kernel_rfl) (by kernel_rfl) [slices_IndexFunc_176_153.c] ⟨slices_IndexFunc_176_153.ok, trivial⟩
    [] (fun _ => none) 5000 trivial (fun k x => by kernel_rfl)

/-! ### loop.example/g00076/impl.windowAt$1: function 186 -/
def impl_windowAt_1.f (a0 : S120) (c1 : Int) : Option (Bool) := if a0.f0 ≤ c1 then (some (decide (c1 < (wrap64 (a0.f0 + a0.f1))))) else (some false)
def impl_windowAt_1.c : FnD := { f := 186, ps := [.agg T120, .cap (.int .i64)], vc := .c (.bool), bs := [], R := Bool, fn := fun _ x => impl_windowAt_1.f x.1 x.2.1, out := fun y => (y, ()), inn := fun d => d.1, inv := fun _ => rfl }
theorem impl_windowAt_1.ok : impl_windowAt_1.c.OK Try.prog :=
  FnD.of impl_windowAt_1.c mix tok (fn := Try.f186) Try.func186 (by kernel_rfl) (fun _ _ => by kernel_rfl) (by kernel_rfl) (by kernel_rfl) [] trivial
    [] (fun _ => none) 5000 trivial (fun k x => by kernel_rfl)

/-! ### slices.IndexFunc[[]loop.example/g00076/impl.Window,loop.example/g00076/impl.Window]: function 176 -/
def slices_IndexFunc_176_186.l4 : Nat → (List S120) → Int → Int → Int → Option (Int)
  | 0, _, _, _, _ => none
  | k + 1, x0, x1_0, x7, x8 => if x8 < x7 then (if 0 ≤ x8 then (if x8 < (x0.length : Int) then ((impl_windowAt_1.f (rd_T120 x0 x8) x1_0).bind fun t1 => (if t1 = true then (some x8) else (slices_IndexFunc_176_186.l4 k x0 x1_0 x7 (wrap64 (x8 + 1))))) else none) else none) else (some (-1))
def slices_IndexFunc_176_186.f (k : Nat) (a0 : List S120) (p1_0 : Int) : Option (Int) := slices_IndexFunc_176_186.l4 k a0 p1_0 (a0.length : Int) 0
def slices_IndexFunc_176_186.c : FnD := { f := 176, ps := [.c (.sl T120), .fn 186 [(.int .i64)]], vc := .c (.int .i64), bs := [], R := Int, fn := fun k x => slices_IndexFunc_176_186.f k x.1 x.2.1.1, out := fun y => (y, ()), inn := fun d => d.1, inv := fun _ => rfl }
theorem slices_IndexFunc_176_186.ok : slices_IndexFunc_176_186.c.OK Try.prog :=
  FnD.of slices_IndexFunc_176_186.c mix tok (fn := Try.f176) Try.func176 (by kernel_rfl) (fun _ _ => by kernel_rfl) (by kernel_rfl) (by kernel_rfl) [impl_windowAt_1.c] ⟨impl_windowAt_1.ok, trivial⟩
    [{ lbl := 4, live := [(0, none), (1, none), (7, none), (8, none)], vs := [.c (.sl false T120), .c (.fn 186 [(.int .i64)]), .c (.int .i64), .c (.int .i64)], bs := [], f := fun k x y => slices_IndexFunc_176_186.l4 k x.1 x.2.1.1 x.2.2.1 x.2.2.2.1 }] (fun _ => none) 5000 ⟨⟨fun _ _ => rfl, fun k x y => by kernel_rfl⟩, trivial⟩ (fun k x => by kernel_rfl)

/-! ### loop.example/g00076/impl.windowAt: function 177 -/
def impl_windowAt.f (k : Nat) (a0 : List S120) (a1 : Int) : Option (Int) := (slices_IndexFunc_176_186.f k a0 a1).bind fun t1 => (some t1)
def impl_windowAt.c : FnD := { f := 177, ps := [.c (.sl T120), .c (.int .i64)], vc := .c (.int .i64), bs := [], R := Int, fn := fun k x => impl_windowAt.f k x.1 x.2.1, out := fun y => (y, ()), inn := fun d => d.1, inv := fun _ => rfl }
theorem impl_windowAt.ok : impl_windowAt.c.OK Try.prog :=
  FnD.of impl_windowAt.c mix tok (fn := Try.f177) Try.func177 (by kernel_rfl) (fun _ _ => by kernel_rfl) (by kernel_rfl) (by kernel_rfl) [slices_IndexFunc_176_186.c] ⟨slices_IndexFunc_176_186.ok, trivial⟩
    [] (fun _ => none) 5000 trivial (fun k x => by kernel_rfl)

/-! ### loop.example/g00076/impl.runsAt: function 155 -/
def impl_runsAt.f (k : Nat) (a0 : S118) (a1 : Int) : Option (Bool) := (impl_windowAt.f k a0.f3 a1).bind fun t1 => (if t1 ≥ 0 then (if 0 ≤ t1 then (if t1 < (a0.f3.length : Int) then (some (!(decide ((bitAnd .i64 ((rd_T120 a0.f3 t1).f2) 4) = 0)))) else none) else none) else (some false))
def impl_runsAt.c : FnD := { f := 155, ps := [.agg T118, .c (.int .i64)], vc := .c (.bool), bs := [], R := Bool, fn := fun k x => impl_runsAt.f k x.1 x.2.1, out := fun y => (y, ()), inn := fun d => d.1, inv := fun _ => rfl }
theorem impl_runsAt.ok : impl_runsAt.c.OK Try.prog :=
  FnD.of impl_runsAt.c mix tok (fn := Try.f155) Try.func155 (by kernel_rfl) (fun _ _ => by kernel_rfl) (by kernel_rfl) (by kernel_rfl) [impl_windowAt.c] ⟨impl_windowAt.ok, trivial⟩
    [] (fun _ => none) 5000 trivial (fun k x => by kernel_rfl)

/-! ### loop.example/g00076/impl.areParts: function 109 -/
mutual
def impl_areParts.l6 : Nat → (List S118) → Int → Int → S33 → (List S120) → Option (Bool)
  | 0, _, _, _, _, _ => none
  | k + 1, x9, x10, x11, y0, h1 => if x11 < x10 then (if 0 ≤ x11 then (if x11 < (x9.length : Int) then ((impl_isName.f k ((rd_T118 x9 x11).f0)).bind fun t1 => (if t1 = true then ((impl_partNamed.f k y0 ((rd_T118 x9 x11).f0)).bind fun t2 => (if t2 < x11 then (some false) else ((impl_isPolicy.f ((rd_T118 x9 x11).f2)).bind fun t3 => (if t3 = true then ((impl_within.f (((rd_T118 x9 x11).f3).length : Int) 1 4).bind fun t4 => (if t4 = true then (impl_areParts.l16 k x9 x10 x11 ((rd_T118 x9 x11).f3) (((rd_T118 x9 x11).f3).length : Int) 0 y0 h1 (rd_T118 x9 x11)) else (some false))) else (some false))))) else (some false))) else none) else none) else (some true)
def impl_areParts.l16 : Nat → (List S118) → Int → Int → (List S120) → Int → Int → S33 → (List S120) → S118 → Option (Bool)
  | 0, _, _, _, _, _, _, _, _, _ => none
  | k + 1, x9, x10, x11, x42, x43, x44, y0, h1, y2 => if x44 < x43 then (if 0 ≤ x44 then (if x44 < (x42.length : Int) then ((impl_isWindow.f (rd_T120 x42 x44)).bind fun t5 => (if t5 = true then (if (wrap64 (((rd_T120 x42 x44).f0) + ((rd_T120 x42 x44).f1))) > y0.f0 then (some false) else ((slices_ContainsFunc_152_153.f k h1 (rd_T120 x42 x44)).bind fun t6 => (if t6 = true then (some false) else (if h1.length + ([(rd_T120 x42 x44)] : List S120).length < 5864062014805 then (impl_areParts.l16 k x9 x10 x11 x42 x43 (wrap64 (x44 + 1)) y0 (h1 ++ ([(rd_T120 x42 x44)] : List S120)) y2) else none)))) else (some false))) else none) else none) else (if (Int.tmod y2.f1 4) = 0 then ((impl_runsAt.f k y2 y2.f1).bind fun t7 => (if t7 = true then (impl_areParts.l6 k x9 x10 (wrap64 (x11 + 1)) y0 h1) else (some false))) else (some false))
end
def impl_areParts.f (k : Nat) (a0 : S33) : Option (Bool) := impl_areParts.l6 k a0.f7 (a0.f7.length : Int) 0 a0 ([] : List S120)
def impl_areParts.c : FnD := { f := 109, ps := [.agg T33], vc := .c (.bool), bs := [], R := Bool, fn := fun k x => impl_areParts.f k x.1, out := fun y => (y, ()), inn := fun d => d.1, inv := fun _ => rfl }
theorem impl_areParts.ok : impl_areParts.c.OK Try.prog :=
  FnD.of impl_areParts.c mix tok (fn := Try.f109) Try.func109 (by kernel_rfl) (fun _ _ => by kernel_rfl) (by kernel_rfl) (by kernel_rfl) [impl_isName.c, impl_partNamed.c, impl_isPolicy.c, impl_within.c, impl_isWindow.c, slices_ContainsFunc_152_153.c, impl_runsAt.c] ⟨impl_isName.ok, ⟨impl_partNamed.ok, ⟨impl_isPolicy.ok, ⟨impl_within.ok, ⟨impl_isWindow.ok, ⟨slices_ContainsFunc_152_153.ok, ⟨impl_runsAt.ok, trivial⟩⟩⟩⟩⟩⟩⟩
    [{ lbl := 6, live := [(1, none), (3, some (T120, 120)), (9, none), (10, none), (11, none)], vs := [.c (.ptr 0 0), .c (.own 1), .c (.sl false T118), .c (.int .i64), .c (.int .i64)], bs := [.cells 33 [.int .i64, .int .i64, .int .i64, .int .i64, .int .i64, .int .i64, .int .i64, .int .i64, .int .i64, .int .i64, .int .i64, .int .i64, .int .i64, .int .i64, .int .i64, .sl false T118, .sl false (.int .i64), .sl false T39, .sl false T44], .arr T120 120 true], f := fun k x y => impl_areParts.l6 k x.2.2.1 x.2.2.2.1 x.2.2.2.2.1 (y.1.1, (y.1.2.1, y.1.2.2.1, y.1.2.2.2.1), y.1.2.2.2.2.1, (y.1.2.2.2.2.2.1, y.1.2.2.2.2.2.2.1, y.1.2.2.2.2.2.2.2.1, y.1.2.2.2.2.2.2.2.2.1, y.1.2.2.2.2.2.2.2.2.2.1, y.1.2.2.2.2.2.2.2.2.2.2.1, y.1.2.2.2.2.2.2.2.2.2.2.2.1), y.1.2.2.2.2.2.2.2.2.2.2.2.2.1, y.1.2.2.2.2.2.2.2.2.2.2.2.2.2.1, y.1.2.2.2.2.2.2.2.2.2.2.2.2.2.2.1, y.1.2.2.2.2.2.2.2.2.2.2.2.2.2.2.2.1, y.1.2.2.2.2.2.2.2.2.2.2.2.2.2.2.2.2.1, y.1.2.2.2.2.2.2.2.2.2.2.2.2.2.2.2.2.2.1, y.1.2.2.2.2.2.2.2.2.2.2.2.2.2.2.2.2.2.2.1) y.2.1 },
      { lbl := 16, live := [(1, none), (3, some (T120, 120)), (5, none), (9, none), (10, none), (11, none), (42, none), (43, none), (44, none)], vs := [.c (.ptr 0 0), .c (.own 1), .c (.ptr 2 0), .c (.sl false T118), .c (.int .i64), .c (.int .i64), .c (.sl false T120), .c (.int .i64), .c (.int .i64)], bs := [.cells 33 [.int .i64, .int .i64, .int .i64, .int .i64, .int .i64, .int .i64, .int .i64, .int .i64, .int .i64, .int .i64, .int .i64, .int .i64, .int .i64, .int .i64, .int .i64, .sl false T118, .sl false (.int .i64), .sl false T39, .sl false T44], .arr T120 120 true, .cells 118 [.str, .int .i64, .int .i64, .int .i64, .sl false T120]], f := fun k x y => impl_areParts.l16 k x.2.2.2.1 x.2.2.2.2.1 x.2.2.2.2.2.1 x.2.2.2.2.2.2.1 x.2.2.2.2.2.2.2.1 x.2.2.2.2.2.2.2.2.1 (y.1.1, (y.1.2.1, y.1.2.2.1, y.1.2.2.2.1), y.1.2.2.2.2.1, (y.1.2.2.2.2.2.1, y.1.2.2.2.2.2.2.1, y.1.2.2.2.2.2.2.2.1, y.1.2.2.2.2.2.2.2.2.1, y.1.2.2.2.2.2.2.2.2.2.1, y.1.2.2.2.2.2.2.2.2.2.2.1, y.1.2.2.2.2.2.2.2.2.2.2.2.1), y.1.2.2.2.2.2.2.2.2.2.2.2.2.1, y.1.2.2.2.2.2.2.2.2.2.2.2.2.2.1, y.1.2.2.2.2.2.2.2.2.2.2.2.2.2.2.1, y.1.2.2.2.2.2.2.2.2.2.2.2.2.2.2.2.1, y.1.2.2.2.2.2.2.2.2.2.2.2.2.2.2.2.2.1, y.1.2.2.2.2.2.2.2.2.2.2.2.2.2.2.2.2.2.1, y.1.2.2.2.2.2.2.2.2.2.2.2.2.2.2.2.2.2.2.1) y.2.1 (y.2.2.1.1, y.2.2.1.2.1, (y.2.2.1.2.2.1, y.2.2.1.2.2.2.1), y.2.2.1.2.2.2.2.1) }] (fun _ => none) 5000 ⟨⟨fun _ _ => rfl, fun k x y => by kernel_rfl⟩, ⟨⟨fun _ _ => rfl, fun k x y => by kernel_rfl⟩, trivial⟩⟩ (fun k x => by kernel_rfl)

/-! ### loop.example/g00076/impl.isSound$1: function 110 -/
def impl_isSound_1.f (a0 : Int) (c1 : Int) : Option (Bool) := (impl_within.f a0 0 (wrap64 (c1 - 1))).bind fun t1 => (some (!t1))
def impl_isSound_1.c : FnD := { f := 110, ps := [.c (.int .i64), .cap (.int .i64)], vc := .c (.bool), bs := [], R := Bool, fn := fun _ x => impl_isSound_1.f x.1 x.2.1, out := fun y => (y, ()), inn := fun d => d.1, inv := fun _ => rfl }
theorem impl_isSound_1.ok : impl_isSound_1.c.OK Try.prog :=
  FnD.of impl_isSound_1.c mix tok (fn := Try.f110) Try.func110 (by kernel_rfl) (fun _ _ => by kernel_rfl) (by kernel_rfl) (by kernel_rfl) [impl_within.c] ⟨impl_within.ok, trivial⟩
    [] (fun _ => none) 5000 trivial (fun k x => by kernel_rfl)

/-! ### slices.IndexFunc[[]int,int]: function 123 -/
def slices_IndexFunc_123_110.l4 : Nat → (List Int) → Int → Int → Int → Option (Int)
  | 0, _, _, _, _ => none
  | k + 1, x0, x1_0, x7, x8 => if x8 < x7 then (if 0 ≤ x8 then (if x8 < (x0.length : Int) then ((impl_isSound_1.f (rd x0 x8) x1_0).bind fun t1 => (if t1 = true then (some x8) else (slices_IndexFunc_123_110.l4 k x0 x1_0 x7 (wrap64 (x8 + 1))))) else none) else none) else (some (-1))
def slices_IndexFunc_123_110.f (k : Nat) (a0 : List Int) (p1_0 : Int) : Option (Int) := slices_IndexFunc_123_110.l4 k a0 p1_0 (a0.length : Int) 0
def slices_IndexFunc_123_110.c : FnD := { f := 123, ps := [.c (.sl (.int .i64)), .fn 110 [(.int .i64)]], vc := .c (.int .i64), bs := [], R := Int, fn := fun k x => slices_IndexFunc_123_110.f k x.1 x.2.1.1, out := fun y => (y, ()), inn := fun d => d.1, inv := fun _ => rfl }
theorem slices_IndexFunc_123_110.ok : slices_IndexFunc_123_110.c.OK Try.prog :=
  FnD.of slices_IndexFunc_123_110.c mix tok (fn := Try.f123) Try.func123 (by kernel_rfl) (fun _ _ => by kernel_rfl) (by kernel_rfl) (by kernel_rfl) [impl_isSound_1.c] ⟨impl_isSound_1.ok, trivial⟩
    [{ lbl := 4, live := [(0, none), (1, none), (7, none), (8, none)], vs := [.c (.sl false (.int .i64)), .c (.fn 110 [(.int .i64)]), .c (.int .i64), .c (.int .i64)], bs := [], f := fun k x y => slices_IndexFunc_123_110.l4 k x.1 x.2.1.1 x.2.2.1 x.2.2.2.1 }] (fun _ => none) 5000 ⟨⟨fun _ _ => rfl, fun k x y => by kernel_rfl⟩, trivial⟩ (fun k x => by kernel_rfl)

/-! ### slices.ContainsFunc[[]int,int]: function 63 -/
def slices_ContainsFunc_63_110.f (k : Nat) (a0 : List Int) (p1_0 : Int) : Option (Bool) := (slices_IndexFunc_123_110.f k a0 p1_0).bind fun t1 => (some (decide (t1 ≥ 0)))
def slices_ContainsFunc_63_110.c : FnD := { f := 63, ps := [.c (.sl (.int .i64)), .fn 110 [(.int .i64)]], vc := .c (.bool), bs := [], R := Bool, fn := fun k x => slices_ContainsFunc_63_110.f k x.1 x.2.1.1, out := fun y => (y, ()), inn := fun d => d.1, inv := fun _ => rfl }
theorem slices_ContainsFunc_63_110.ok : slices_ContainsFunc_63_110.c.OK Try.prog :=
  FnD.of slices_ContainsFunc_63_110.c mix tok (fn := Try.f63) Try.func63 (by kernel_rfl) (fun _ _ => by kernel_rfl) (by kernel_rfl) (by kernel_rfl) [slices_IndexFunc_123_110.c] ⟨slices_IndexFunc_123_110.ok, trivial⟩
    [] (fun _ => none) 5000 trivial (fun k x => by kernel_rfl)

/-! ### loop.example/g00076/impl.isChan: function 113 -/
def impl_isChan.f (a0 : S39) : Option (Bool) := (impl_within.f a0.f1 0 5).bind fun t1 => (if t1 = true then ((impl_within.f a0.f2 0 5).bind fun t2 => (if t2 = true then (if a0.f1 = a0.f2 then (some false) else (if a0.f0 = 0 then (if a0.f3 = 0 then (some true) else (if a0.f0 = 1 then ((impl_within.f a0.f3 1 8).bind fun t3 => (some t3)) else (some false))) else (if a0.f0 = 1 then ((impl_within.f a0.f3 1 8).bind fun t4 => (some t4)) else (some false)))) else (some false))) else (some false))
def impl_isChan.c : FnD := { f := 113, ps := [.agg T39], vc := .c (.bool), bs := [], R := Bool, fn := fun _ x => impl_isChan.f x.1, out := fun y => (y, ()), inn := fun d => d.1, inv := fun _ => rfl }
theorem impl_isChan.ok : impl_isChan.c.OK Try.prog :=
  FnD.of impl_isChan.c mix tok (fn := Try.f113) Try.func113 (by kernel_rfl) (fun _ _ => by kernel_rfl) (by kernel_rfl) (by kernel_rfl) [impl_within.c] ⟨impl_within.ok, trivial⟩
    [] (fun _ => none) 5000 trivial (fun k x => by kernel_rfl)

/-! ### loop.example/g00076/impl.isSound$2: function 112 -/
def impl_isSound_2.f (a0 : S39) (c1 : Int) : Option (Bool) := (impl_isChan.f a0).bind fun t1 => (if t1 = true then (if a0.f1 ≥ c1 then (some true) else (some (decide (a0.f2 ≥ c1)))) else (some true))
def impl_isSound_2.c : FnD := { f := 112, ps := [.agg T39, .cap (.int .i64)], vc := .c (.bool), bs := [], R := Bool, fn := fun _ x => impl_isSound_2.f x.1 x.2.1, out := fun y => (y, ()), inn := fun d => d.1, inv := fun _ => rfl }
theorem impl_isSound_2.ok : impl_isSound_2.c.OK Try.prog :=
  FnD.of impl_isSound_2.c mix tok (fn := Try.f112) Try.func112 (by kernel_rfl) (fun _ _ => by kernel_rfl) (by kernel_rfl) (by kernel_rfl) [impl_isChan.c] ⟨impl_isChan.ok, trivial⟩
    [] (fun _ => none) 5000 trivial (fun k x => by kernel_rfl)

/-! ### slices.IndexFunc[[]loop.example/g00076/impl.ChanRow,loop.example/g00076/impl.ChanRow]: function 156 -/
def slices_IndexFunc_156_112.l4 : Nat → (List S39) → Int → Int → Int → Option (Int)
  | 0, _, _, _, _ => none
  | k + 1, x0, x1_0, x7, x8 => if x8 < x7 then (if 0 ≤ x8 then (if x8 < (x0.length : Int) then ((impl_isSound_2.f (rd_T39 x0 x8) x1_0).bind fun t1 => (if t1 = true then (some x8) else (slices_IndexFunc_156_112.l4 k x0 x1_0 x7 (wrap64 (x8 + 1))))) else none) else none) else (some (-1))
def slices_IndexFunc_156_112.f (k : Nat) (a0 : List S39) (p1_0 : Int) : Option (Int) := slices_IndexFunc_156_112.l4 k a0 p1_0 (a0.length : Int) 0
def slices_IndexFunc_156_112.c : FnD := { f := 156, ps := [.c (.sl T39), .fn 112 [(.int .i64)]], vc := .c (.int .i64), bs := [], R := Int, fn := fun k x => slices_IndexFunc_156_112.f k x.1 x.2.1.1, out := fun y => (y, ()), inn := fun d => d.1, inv := fun _ => rfl }
theorem slices_IndexFunc_156_112.ok : slices_IndexFunc_156_112.c.OK Try.prog :=
  FnD.of slices_IndexFunc_156_112.c mix tok (fn := Try.f156) Try.func156 (by kernel_rfl) (fun _ _ => by kernel_rfl) (by kernel_rfl) (by kernel_rfl) [impl_isSound_2.c] ⟨impl_isSound_2.ok, trivial⟩
    [{ lbl := 4, live := [(0, none), (1, none), (7, none), (8, none)], vs := [.c (.sl false T39), .c (.fn 112 [(.int .i64)]), .c (.int .i64), .c (.int .i64)], bs := [], f := fun k x y => slices_IndexFunc_156_112.l4 k x.1 x.2.1.1 x.2.2.1 x.2.2.2.1 }] (fun _ => none) 5000 ⟨⟨fun _ _ => rfl, fun k x y => by kernel_rfl⟩, trivial⟩ (fun k x => by kernel_rfl)

/-! ### slices.ContainsFunc[[]loop.example/g00076/impl.ChanRow,loop.example/g00076/impl.ChanRow]: function 111 -/
def slices_ContainsFunc_111_112.f (k : Nat) (a0 : List S39) (p1_0 : Int) : Option (Bool) := (slices_IndexFunc_156_112.f k a0 p1_0).bind fun t1 => (some (decide (t1 ≥ 0)))
def slices_ContainsFunc_111_112.c : FnD := { f := 111, ps := [.c (.sl T39), .fn 112 [(.int .i64)]], vc := .c (.bool), bs := [], R := Bool, fn := fun k x => slices_ContainsFunc_111_112.f k x.1 x.2.1.1, out := fun y => (y, ()), inn := fun d => d.1, inv := fun _ => rfl }
theorem slices_ContainsFunc_111_112.ok : slices_ContainsFunc_111_112.c.OK Try.prog :=
  FnD.of slices_ContainsFunc_111_112.c mix tok (fn := Try.f111) Try.func111 (by kernel_rfl) (fun _ _ => by kernel_rfl) (by kernel_rfl) (by kernel_rfl) [slices_IndexFunc_156_112.c] ⟨slices_IndexFunc_156_112.ok, trivial⟩
    [] (fun _ => none) 5000 trivial (fun k x => by kernel_rfl)

/-! ### loop.example/g00076/impl.depthOf: function 157 -/
def impl_depthOf.f (a0 : S39) : Option (Int) := some (mx 1 a0.f3)
def impl_depthOf.c : FnD := { f := 157, ps := [.agg T39], vc := .c (.int .i64), bs := [], R := Int, fn := fun _ x => impl_depthOf.f x.1, out := fun y => (y, ()), inn := fun d => d.1, inv := fun _ => rfl }
theorem impl_depthOf.ok : impl_depthOf.c.OK Try.prog :=
  FnD.of impl_depthOf.c mix tok (fn := Try.f157) Try.func157 (by kernel_rfl) (fun _ _ => by kernel_rfl) (by kernel_rfl) (by kernel_rfl) [] trivial
    [] (fun _ => none) 5000 trivial (fun k x => by kernel_rfl)

/-! ### loop.example/g00076/impl.worstPad: function 114 -/
def impl_worstPad.l6 : Nat → Int → (List S39) → Int → Int → S27 → Option (Int)
  | 0, _, _, _, _, _ => none
  | k + 1, x7, x22, x23, x24, y0 => if x24 < x23 then (if 0 ≤ x24 then (if x24 < (x22.length : Int) then ((impl_depthOf.f (rd_T39 x22 x24)).bind fun t1 => (impl_worstPad.l6 k (wrap64 (x7 + (wrap64 (y0.f0 * t1)))) x22 x23 (wrap64 (x24 + 1)) y0)) else none) else none) else (some x7)
def impl_worstPad.f (k : Nat) (a0 : S27) (a1 : S25) (a2 : List S39) : Option (Int) := impl_worstPad.l6 k (wrap64 ((wrap64 (16 * a0.f0)) + (wrap64 ((wrap64 (a1.f0 * a1.f1)) * a0.f6)))) a2 (a2.length : Int) 0 a0
def impl_worstPad.c : FnD := { f := 114, ps := [.agg T27, .agg T25, .c (.sl T39)], vc := .c (.int .i64), bs := [], R := Int, fn := fun k x => impl_worstPad.f k x.1 x.2.1 x.2.2.1, out := fun y => (y, ()), inn := fun d => d.1, inv := fun _ => rfl }
theorem impl_worstPad.ok : impl_worstPad.c.OK Try.prog :=
  FnD.of impl_worstPad.c mix tok (fn := Try.f114) Try.func114 (by kernel_rfl) (fun _ _ => by kernel_rfl) (by kernel_rfl) (by kernel_rfl) [impl_depthOf.c] ⟨impl_depthOf.ok, trivial⟩
    [{ lbl := 6, live := [(3, none), (7, none), (22, none), (23, none), (24, none)], vs := [.c (.ptr 0 0), .c (.int .i64), .c (.sl false T39), .c (.int .i64), .c (.int .i64)], bs := [.cells 27 [.int .i64, .int .i64, .int .i64, .int .i64, .int .i64, .int .i64, .int .i64]], f := fun k x y => impl_worstPad.l6 k x.2.1 x.2.2.1 x.2.2.2.1 x.2.2.2.2.1 (y.1.1, y.1.2.1, y.1.2.2.1, y.1.2.2.2.1, y.1.2.2.2.2.1, y.1.2.2.2.2.2.1, y.1.2.2.2.2.2.2.1) }] (fun _ => none) 5000 ⟨⟨fun _ _ => rfl, fun k x y => by kernel_rfl⟩, trivial⟩ (fun k x => by kernel_rfl)

/-! ### loop.example/g00076/impl.isSlotAt: function 158 -/
def impl_isSlotAt.f (a0 : S33) (a1 : S44) (a2 : Int) : Option (Bool) := if a1.f2 > (wrap64 (a0.f4 + a0.f5)) then (if a1.f2 ≤ a0.f6 then (if a1.f1 ≥ a2 then (some (decide (a1.f1 ≤ (wrap64 (a0.f6 - a1.f2))))) else (some false)) else (some false)) else (some false)
def impl_isSlotAt.c : FnD := { f := 158, ps := [.agg T33, .agg T44, .c (.int .i64)], vc := .c (.bool), bs := [], R := Bool, fn := fun _ x => impl_isSlotAt.f x.1 x.2.1 x.2.2.1, out := fun y => (y, ()), inn := fun d => d.1, inv := fun _ => rfl }
theorem impl_isSlotAt.ok : impl_isSlotAt.c.OK Try.prog :=
  FnD.of impl_isSlotAt.c mix tok (fn := Try.f158) Try.func158 (by kernel_rfl) (fun _ _ => by kernel_rfl) (by kernel_rfl) (by kernel_rfl) [] trivial
    [] (fun _ => none) 5000 trivial (fun k x => by kernel_rfl)

/-! ### loop.example/g00076/impl.areSlots: function 115 -/
def impl_areSlots.l6 : Nat → Int → (List S44) → Int → Int → S33 → Option (Bool)
  | 0, _, _, _, _, _ => none
  | k + 1, x3, x7, x8, x9, y0 => if x9 < x8 then (if 0 ≤ x9 then (if x9 < (x7.length : Int) then ((impl_within.f ((rd_T44 x7 x9).f0) 0 (wrap64 ((y0.f7.length : Int) - 1))).bind fun t1 => (if t1 = true then ((impl_isSlotAt.f y0 (rd_T44 x7 x9) x3).bind fun t2 => (if t2 = true then (impl_areSlots.l6 k (wrap64 (((rd_T44 x7 x9).f1) + ((rd_T44 x7 x9).f2))) x7 x8 (wrap64 (x9 + 1)) y0) else (some false))) else (some false))) else none) else none) else ((impl_within.f (y0.f10.length : Int) 1 16).bind fun t3 => (some t3))
def impl_areSlots.f (k : Nat) (a0 : S33) : Option (Bool) := impl_areSlots.l6 k 0 a0.f10 (a0.f10.length : Int) 0 a0
def impl_areSlots.c : FnD := { f := 115, ps := [.agg T33], vc := .c (.bool), bs := [], R := Bool, fn := fun k x => impl_areSlots.f k x.1, out := fun y => (y, ()), inn := fun d => d.1, inv := fun _ => rfl }
theorem impl_areSlots.ok : impl_areSlots.c.OK Try.prog :=
  FnD.of impl_areSlots.c mix tok (fn := Try.f115) Try.func115 (by kernel_rfl) (fun _ _ => by kernel_rfl) (by kernel_rfl) (by kernel_rfl) [impl_within.c, impl_isSlotAt.c] ⟨impl_within.ok, ⟨impl_isSlotAt.ok, trivial⟩⟩
    [{ lbl := 6, live := [(1, none), (3, none), (7, none), (8, none), (9, none)], vs := [.c (.ptr 0 0), .c (.int .i64), .c (.sl false T44), .c (.int .i64), .c (.int .i64)], bs := [.cells 33 [.int .i64, .int .i64, .int .i64, .int .i64, .int .i64, .int .i64, .int .i64, .int .i64, .int .i64, .int .i64, .int .i64, .int .i64, .int .i64, .int .i64, .int .i64, .sl false T118, .sl false (.int .i64), .sl false T39, .sl false T44]], f := fun k x y => impl_areSlots.l6 k x.2.1 x.2.2.1 x.2.2.2.1 x.2.2.2.2.1 (y.1.1, (y.1.2.1, y.1.2.2.1, y.1.2.2.2.1), y.1.2.2.2.2.1, (y.1.2.2.2.2.2.1, y.1.2.2.2.2.2.2.1, y.1.2.2.2.2.2.2.2.1, y.1.2.2.2.2.2.2.2.2.1, y.1.2.2.2.2.2.2.2.2.2.1, y.1.2.2.2.2.2.2.2.2.2.2.1, y.1.2.2.2.2.2.2.2.2.2.2.2.1), y.1.2.2.2.2.2.2.2.2.2.2.2.2.1, y.1.2.2.2.2.2.2.2.2.2.2.2.2.2.1, y.1.2.2.2.2.2.2.2.2.2.2.2.2.2.2.1, y.1.2.2.2.2.2.2.2.2.2.2.2.2.2.2.2.1, y.1.2.2.2.2.2.2.2.2.2.2.2.2.2.2.2.2.1, y.1.2.2.2.2.2.2.2.2.2.2.2.2.2.2.2.2.2.1, y.1.2.2.2.2.2.2.2.2.2.2.2.2.2.2.2.2.2.2.1) }] (fun _ => none) 5000 ⟨⟨fun _ _ => rfl, fun k x y => by kernel_rfl⟩, trivial⟩ (fun k x => by kernel_rfl)

/-! ### loop.example/g00076/impl.isSound: function 51 -/
def impl_isSound.f (k : Nat) (a0 : S33) : Option (Bool) := (impl_isMem.f a0.f0).bind fun t1 => (if t1 = true then ((impl_isShape.f a0.f1).bind fun t2 => (if t2 = true then ((impl_within.f a0.f2 1 8).bind fun t3 => (if t3 = true then ((impl_areCosts.f k a0.f3).bind fun t4 => (if t4 = true then ((impl_isSpan.f a0.f4).bind fun t5 => (if t5 = true then ((impl_isSpan.f a0.f5).bind fun t6 => (if t6 = true then ((impl_isSpan.f a0.f6).bind fun t7 => (if t7 = true then ((impl_worstStep.f k a0.f3).bind fun t8 => (if a0.f5 < t8 then (some false) else ((impl_within.f (a0.f7.length : Int) 1 6).bind fun t9 => (if t9 = true then ((impl_areParts.f k a0).bind fun t10 => (if t10 = true then (if (a0.f8.length : Int) > 8 then (some false) else ((slices_ContainsFunc_63_110.f k a0.f8 (a0.f7.length : Int)).bind fun t11 => (if t11 = true then (some false) else (if (a0.f9.length : Int) > 8 then (some false) else ((slices_ContainsFunc_111_112.f k a0.f9 (a0.f7.length : Int)).bind fun t12 => (if t12 = true then (some false) else ((impl_worstPad.f k a0.f3 a0.f1 a0.f9).bind fun t13 => (if a0.f4 < t13 then (some false) else ((impl_areSlots.f k a0).bind fun t14 => (some t14)))))))))) else (some false))) else (some false))))) else (some false))) else (some false))) else (some false))) else (some false))) else (some false))) else (some false))) else (some false))
def impl_isSound.c : FnD := { f := 51, ps := [.agg T33], vc := .c (.bool), bs := [], R := Bool, fn := fun k x => impl_isSound.f k x.1, out := fun y => (y, ()), inn := fun d => d.1, inv := fun _ => rfl }
theorem impl_isSound.ok : impl_isSound.c.OK Try.prog :=
  FnD.of impl_isSound.c mix tok (fn := Try.f51) Try.func51 (by kernel_rfl) (fun _ _ => by kernel_rfl) (by kernel_rfl) (by kernel_rfl) [impl_isMem.c, impl_isShape.c, impl_within.c, impl_areCosts.c, impl_isSpan.c, impl_worstStep.c, impl_areParts.c, slices_ContainsFunc_63_110.c, slices_ContainsFunc_111_112.c, impl_worstPad.c, impl_areSlots.c] ⟨impl_isMem.ok, ⟨impl_isShape.ok, ⟨impl_within.ok, ⟨impl_areCosts.ok, ⟨impl_isSpan.ok, ⟨impl_worstStep.ok, ⟨impl_areParts.ok, ⟨slices_ContainsFunc_63_110.ok, ⟨slices_ContainsFunc_111_112.ok, ⟨impl_worstPad.ok, ⟨impl_areSlots.ok, trivial⟩⟩⟩⟩⟩⟩⟩⟩⟩⟩⟩
    [] (fun _ => none) 5000 trivial (fun k x => by kernel_rfl)

/-! ### loop.example/g00076/impl.latency: function 55 -/
def impl_latency.l6 : Nat → Int → Int → Int → Int → (List S44) → Int → Int → S33 → Option (Int)
  | 0, _, _, _, _, _, _, _, _ => none
  | k + 1, x1, x5, x6, x7, x12, x13, x14, y0 => if x14 < x13 then (if 0 ≤ x14 then (if x14 < (x12.length : Int) then (if (rd_T44 x12 x14).f0 = x1 then (if x5 < 0 then (impl_latency.l6 k x1 (wrap64 (((rd_T44 x12 x14).f1) + y0.f4)) (wrap64 ((wrap64 (((rd_T44 x12 x14).f1) + ((rd_T44 x12 x14).f2))) - y0.f5)) x7 x12 x13 (wrap64 (x14 + 1)) y0) else (impl_latency.l6 k x1 x5 (wrap64 ((wrap64 (((rd_T44 x12 x14).f1) + ((rd_T44 x12 x14).f2))) - y0.f5)) (mx x7 (wrap64 ((wrap64 (((rd_T44 x12 x14).f1) + y0.f4)) - x6))) x12 x13 (wrap64 (x14 + 1)) y0)) else (impl_latency.l6 k x1 x5 x6 x7 x12 x13 (wrap64 (x14 + 1)) y0)) else none) else none) else (if x5 < 0 then (some (-1)) else (some (mx x7 (wrap64 ((wrap64 (x5 + y0.f6)) - x6)))))
def impl_latency.f (k : Nat) (a0 : S33) (a1 : Int) : Option (Int) := impl_latency.l6 k a1 (-1) 0 (-1) a0.f10 (a0.f10.length : Int) 0 a0
def impl_latency.c : FnD := { f := 55, ps := [.agg T33, .c (.int .i64)], vc := .c (.int .i64), bs := [], R := Int, fn := fun k x => impl_latency.f k x.1 x.2.1, out := fun y => (y, ()), inn := fun d => d.1, inv := fun _ => rfl }
theorem impl_latency.ok : impl_latency.c.OK Try.prog :=
  FnD.of impl_latency.c mix tok (fn := Try.f55) Try.func55 (by kernel_rfl) (fun _ _ => by kernel_rfl) (by kernel_rfl) (by kernel_rfl) [] trivial
    [{ lbl := 6, live := [(1, none), (2, none), (5, none), (6, none), (7, none), (12, none), (13, none), (14, none)], vs := [.c (.int .i64), .c (.ptr 0 0), .c (.int .i64), .c (.int .i64), .c (.int .i64), .c (.sl false T44), .c (.int .i64), .c (.int .i64)], bs := [.cells 33 [.int .i64, .int .i64, .int .i64, .int .i64, .int .i64, .int .i64, .int .i64, .int .i64, .int .i64, .int .i64, .int .i64, .int .i64, .int .i64, .int .i64, .int .i64, .sl false T118, .sl false (.int .i64), .sl false T39, .sl false T44]], f := fun k x y => impl_latency.l6 k x.1 x.2.2.1 x.2.2.2.1 x.2.2.2.2.1 x.2.2.2.2.2.1 x.2.2.2.2.2.2.1 x.2.2.2.2.2.2.2.1 (y.1.1, (y.1.2.1, y.1.2.2.1, y.1.2.2.2.1), y.1.2.2.2.2.1, (y.1.2.2.2.2.2.1, y.1.2.2.2.2.2.2.1, y.1.2.2.2.2.2.2.2.1, y.1.2.2.2.2.2.2.2.2.1, y.1.2.2.2.2.2.2.2.2.2.1, y.1.2.2.2.2.2.2.2.2.2.2.1, y.1.2.2.2.2.2.2.2.2.2.2.2.1), y.1.2.2.2.2.2.2.2.2.2.2.2.2.1, y.1.2.2.2.2.2.2.2.2.2.2.2.2.2.1, y.1.2.2.2.2.2.2.2.2.2.2.2.2.2.2.1, y.1.2.2.2.2.2.2.2.2.2.2.2.2.2.2.2.1, y.1.2.2.2.2.2.2.2.2.2.2.2.2.2.2.2.2.1, y.1.2.2.2.2.2.2.2.2.2.2.2.2.2.2.2.2.2.1, y.1.2.2.2.2.2.2.2.2.2.2.2.2.2.2.2.2.2.2.1) }] (fun _ => none) 5000 ⟨⟨fun _ _ => rfl, fun k x y => by kernel_rfl⟩, trivial⟩ (fun k x => by kernel_rfl)

/-! ### loop.example/g00076/impl.Latency: function 19 -/
def impl_Latency.f (k : Nat) (a0 : S33) (a1 : Int) : Option (Int) := (impl_isSound.f k a0).bind fun t1 => (if t1 = true then ((impl_latency.f k a0 a1).bind fun t2 => (some t2)) else (some (-1)))
def impl_Latency.c : FnD := { f := 19, ps := [.agg T33, .c (.int .i64)], vc := .c (.int .i64), bs := [], R := Int, fn := fun k x => impl_Latency.f k x.1 x.2.1, out := fun y => (y, ()), inn := fun d => d.1, inv := fun _ => rfl }
theorem impl_Latency.ok : impl_Latency.c.OK Try.prog :=
  FnD.of impl_Latency.c mix tok (fn := Try.f19) Try.func19 (by kernel_rfl) (fun _ _ => by kernel_rfl) (by kernel_rfl) (by kernel_rfl) [impl_isSound.c, impl_latency.c] ⟨impl_isSound.ok, ⟨impl_latency.ok, trivial⟩⟩
    [] (fun _ => none) 5000 trivial (fun k x => by kernel_rfl)

/-! ### loop.example/g00076/laws.eqShape: function 87 -/
def laws_eqShape.f (a0 : S25) (a1 : S25) : Option (Bool) := if a0.f0 = a1.f0 then (if a0.f1 = a1.f1 then (if a0.f2 = a1.f2 then (some true) else (some false)) else (some false)) else (some false)
def laws_eqShape.c : FnD := { f := 87, ps := [.agg T25, .agg T25], vc := .c (.bool), bs := [], R := Bool, fn := fun _ x => laws_eqShape.f x.1 x.2.1, out := fun y => (y, ()), inn := fun d => d.1, inv := fun _ => rfl }
theorem laws_eqShape.ok : laws_eqShape.c.OK Try.prog :=
  FnD.of laws_eqShape.c mix tok (fn := Try.f87) Try.func87 (by kernel_rfl) (fun _ _ => by kernel_rfl) (by kernel_rfl) (by kernel_rfl) [] trivial
    [] (fun _ => none) 5000 trivial (fun k x => by kernel_rfl)

/-! ### loop.example/g00076/laws.eqCosts: function 88 -/
def laws_eqCosts.f (a0 : S27) (a1 : S27) : Option (Bool) := if a0.f0 = a1.f0 then (if a0.f1 = a1.f1 then (if a0.f2 = a1.f2 then (if a0.f3 = a1.f3 then (if a0.f4 = a1.f4 then (if a0.f5 = a1.f5 then (if a0.f6 = a1.f6 then (some true) else (some false)) else (some false)) else (some false)) else (some false)) else (some false)) else (some false)) else (some false)
def laws_eqCosts.c : FnD := { f := 88, ps := [.agg T27, .agg T27], vc := .c (.bool), bs := [], R := Bool, fn := fun _ x => laws_eqCosts.f x.1 x.2.1, out := fun y => (y, ()), inn := fun d => d.1, inv := fun _ => rfl }
theorem laws_eqCosts.ok : laws_eqCosts.c.OK Try.prog :=
  FnD.of laws_eqCosts.c mix tok (fn := Try.f88) Try.func88 (by kernel_rfl) (fun _ _ => by kernel_rfl) (by kernel_rfl) (by kernel_rfl) [] trivial
    [] (fun _ => none) 5000 trivial (fun k x => by kernel_rfl)

/-! ### loop.example/g00076/laws.eqPolicy: function 166 -/
def laws_eqPolicy.f (a0 : S115) (a1 : S115) : Option (Bool) := if a0.f0 = a1.f0 then (if a0.f1 = a1.f1 then (some true) else (some false)) else (some false)
def laws_eqPolicy.c : FnD := { f := 166, ps := [.agg T115, .agg T115], vc := .c (.bool), bs := [], R := Bool, fn := fun _ x => laws_eqPolicy.f x.1 x.2.1, out := fun y => (y, ()), inn := fun d => d.1, inv := fun _ => rfl }
theorem laws_eqPolicy.ok : laws_eqPolicy.c.OK Try.prog :=
  FnD.of laws_eqPolicy.c mix tok (fn := Try.f166) Try.func166 (by kernel_rfl) (fun _ _ => by kernel_rfl) (by kernel_rfl) (by kernel_rfl) [] trivial
    [] (fun _ => none) 5000 trivial (fun k x => by kernel_rfl)

/-! ### loop.example/g00076/laws.eqWindow: function 183 -/
def laws_eqWindow.f (a0 : S120) (a1 : S120) : Option (Bool) := if a0.f0 = a1.f0 then (if a0.f1 = a1.f1 then (if a0.f2 = a1.f2 then (some true) else (some false)) else (some false)) else (some false)
def laws_eqWindow.c : FnD := { f := 183, ps := [.agg T120, .agg T120], vc := .c (.bool), bs := [], R := Bool, fn := fun _ x => laws_eqWindow.f x.1 x.2.1, out := fun y => (y, ()), inn := fun d => d.1, inv := fun _ => rfl }
theorem laws_eqWindow.ok : laws_eqWindow.c.OK Try.prog :=
  FnD.of laws_eqWindow.c mix tok (fn := Try.f183) Try.func183 (by kernel_rfl) (fun _ _ => by kernel_rfl) (by kernel_rfl) (by kernel_rfl) [] trivial
    [] (fun _ => none) 5000 trivial (fun k x => by kernel_rfl)

/-! ### loop.example/g00076/laws.eqWindowS: function 167 -/
def laws_eqWindowS.l8 : Nat → (List S120) → (List S120) → Int → Option (Bool)
  | 0, _, _, _ => none
  | k + 1, x0, x1, x5 => if x5 < (x0.length : Int) then (if 0 ≤ x5 then (if x5 < (x0.length : Int) then (if 0 ≤ x5 then (if x5 < (x1.length : Int) then ((laws_eqWindow.f (rd_T120 x0 x5) (rd_T120 x1 x5)).bind fun t1 => (if t1 = true then (laws_eqWindowS.l8 k x0 x1 (wrap64 (x5 + 1))) else (some false))) else none) else none) else none) else none) else (some true)
def laws_eqWindowS.f (k : Nat) (a0 : List S120) (a1 : List S120) : Option (Bool) := if (a0.length : Int) = (a1.length : Int) then (laws_eqWindowS.l8 k a0 a1 0) else (some false)
def laws_eqWindowS.c : FnD := { f := 167, ps := [.c (.sl T120), .c (.sl T120)], vc := .c (.bool), bs := [], R := Bool, fn := fun k x => laws_eqWindowS.f k x.1 x.2.1, out := fun y => (y, ()), inn := fun d => d.1, inv := fun _ => rfl }
theorem laws_eqWindowS.ok : laws_eqWindowS.c.OK Try.prog :=
  FnD.of laws_eqWindowS.c mix tok (fn := Try.f167) Try.func167 (by kernel_rfl) (fun _ _ => by kernel_rfl) (by kernel_rfl) (by kernel_rfl) [laws_eqWindow.c] ⟨laws_eqWindow.ok, trivial⟩
    [{ lbl := 8, live := [(0, none), (1, none), (5, none)], vs := [.c (.sl false T120), .c (.sl false T120), .c (.int .i64)], bs := [], f := fun k x y => laws_eqWindowS.l8 k x.1 x.2.1 x.2.2.1 }] (fun _ => none) 5000 ⟨⟨fun _ _ => rfl, fun k x y => by kernel_rfl⟩, trivial⟩ (fun k x => by kernel_rfl)

end Go.Proofs.Ytebjmogdananjaa.PAll
