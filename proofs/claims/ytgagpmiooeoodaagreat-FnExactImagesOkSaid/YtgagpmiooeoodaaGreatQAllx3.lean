/- Go functions as Lean functions, each with its contract. -/
import Derived.Test.YtgagpmiooeoodaaGreatQAllx2
set_option linter.unusedVariables false
set_option maxRecDepth 100000
namespace Go.Proofs.YtgagpmiooeoodaaGreat.PAll
open Go Go.Proofs Go.RowKit Go.Proofs.YtgagpmiooeoodaaGreat.A
/-! ### loop.example/g00076/impl.slotAt: function 160 -/
def impl_slotAt.f (k : Nat) (a0 : S42) (a1 : Int) : Option (Int) := if a0.f6 = 0 then none else ((slices_IndexFunc_201_202.f k a0.f10 (Int.tmod a1 a0.f6)).bind fun t1 => (some t1))
def impl_slotAt.c : FnD := { f := 160, ps := [.agg T42, .c (.int .i64)], vc := .c (.int .i64), bs := [], R := Int, fn := fun k x => impl_slotAt.f k x.1 x.2.1, out := fun y => (y, ()), inn := fun d => d.1, inv := fun _ => rfl }
theorem impl_slotAt.ok : impl_slotAt.c.OK Tryz.prog :=
  FnD.of impl_slotAt.c mix tok (fn := Tryz.f160) Tryz.func160 (by kernel_rfl) (fun _ _ => by kernel_rfl) (by kernel_rfl) (by kernel_rfl) [slices_IndexFunc_201_202.c] ⟨slices_IndexFunc_201_202.ok, trivial⟩
    [] (fun _ => none) 5000 trivial (fun k x => by kernel_rfl)

/-! ### loop.example/g00076/impl.phaseAt: function 148 -/
def impl_phaseAt.f (k : Nat) (a0 : S42) (a1 : Int) : Option (Int × Int) := (impl_slotAt.f k a0 a1).bind fun t1 => (if t1 < 0 then (some (0, (-1))) else (if 0 ≤ t1 then (if t1 < (a0.f10.length : Int) then (if a0.f6 = 0 then none else (if (wrap64 ((Int.tmod a1 a0.f6) - ((rd_T140 a0.f10 t1).f1))) < a0.f4 then (some (1, (rd_T140 a0.f10 t1).f0)) else (if (wrap64 ((Int.tmod a1 a0.f6) - ((rd_T140 a0.f10 t1).f1))) ≥ (wrap64 (((rd_T140 a0.f10 t1).f2) - a0.f5)) then (some (3, (rd_T140 a0.f10 t1).f0)) else (some (2, (rd_T140 a0.f10 t1).f0))))) else none) else none))
def impl_phaseAt.c : FnD := { f := 148, ps := [.agg T42, .c (.int .i64)], vc := .tup [(false, [.int .i64]), (false, [.int .i64])], bs := [], R := Int × Int, fn := fun k x => impl_phaseAt.f k x.1 x.2.1, out := fun y => (((y.1, ()), (y.2, ()), ()), ()), inn := fun d => (d.1.1.1, d.1.2.1.1), inv := fun _ => rfl }
theorem impl_phaseAt.ok : impl_phaseAt.c.OK Tryz.prog :=
  FnD.of impl_phaseAt.c mix tok (fn := Tryz.f148) Tryz.func148 (by kernel_rfl) (fun _ _ => by kernel_rfl) (by kernel_rfl) (by kernel_rfl) [impl_slotAt.c] ⟨impl_slotAt.ok, trivial⟩
    [] (fun _ => none) 5000 trivial (fun k x => by kernel_rfl)

/-! ### loop.example/g00076/impl.isWrong: function 83 -/
def impl_isWrong.l8 : Nat → Int → S42 → S96 → Option (Bool)
  | 0, _, _, _ => none
  | k + 1, x5, y0, y1 => if x5 < y1.f1 then ((impl_phaseAt.f k y0 x5).bind fun t3 => (if t3.1 = y1.f3 then (if t3.2 = y1.f2 then (impl_isWrong.l8 k (wrap64 (x5 + 1)) y0 y1) else (some true)) else (some true))) else (some false)
def impl_isWrong.f (k : Nat) (a0 : S42) (a1 : S96) : Option (Bool) := (impl_isCycle.f a1.f0).bind fun t1 => (if t1 = true then ((impl_isCycle.f a1.f1).bind fun t2 => (if t2 = true then (if a1.f0 ≥ a1.f1 then (some true) else (impl_isWrong.l8 k a1.f0 a0 a1)) else (some true))) else (some true))
def impl_isWrong.c : FnD := { f := 83, ps := [.agg T42, .agg T96], vc := .c (.bool), bs := [], R := Bool, fn := fun k x => impl_isWrong.f k x.1 x.2.1, out := fun y => (y, ()), inn := fun d => d.1, inv := fun _ => rfl }
theorem impl_isWrong.ok : impl_isWrong.c.OK Tryz.prog :=
  FnD.of impl_isWrong.c mix tok (fn := Tryz.f83) Tryz.func83 (by kernel_rfl) (fun _ _ => by kernel_rfl) (by kernel_rfl) (by kernel_rfl) [impl_isCycle.c, impl_phaseAt.c] ⟨impl_isCycle.ok, ⟨impl_phaseAt.ok, trivial⟩⟩
    [{ lbl := 8, live := [(2, none), (3, none), (5, none)], vs := [.c (.ptr 0 0), .c (.ptr 1 0), .c (.int .i64)], bs := [.cells 42 [.int .i64, .int .i64, .int .i64, .int .i64, .int .i64, .int .i64, .int .i64, .int .i64, .int .i64, .int .i64, .int .i64, .int .i64, .int .i64, .int .i64, .int .i64, .sl false T128, .sl false (.int .i64), .sl false T119, .sl false T140], .cells 96 [.int .i64, .int .i64, .int .i64, .int .i64]], f := fun k x y => impl_isWrong.l8 k x.2.2.1 (y.1.1, (y.1.2.1, y.1.2.2.1, y.1.2.2.2.1), y.1.2.2.2.2.1, (y.1.2.2.2.2.2.1, y.1.2.2.2.2.2.2.1, y.1.2.2.2.2.2.2.2.1, y.1.2.2.2.2.2.2.2.2.1, y.1.2.2.2.2.2.2.2.2.2.1, y.1.2.2.2.2.2.2.2.2.2.2.1, y.1.2.2.2.2.2.2.2.2.2.2.2.1), y.1.2.2.2.2.2.2.2.2.2.2.2.2.1, y.1.2.2.2.2.2.2.2.2.2.2.2.2.2.1, y.1.2.2.2.2.2.2.2.2.2.2.2.2.2.2.1, y.1.2.2.2.2.2.2.2.2.2.2.2.2.2.2.2.1, y.1.2.2.2.2.2.2.2.2.2.2.2.2.2.2.2.2.1, y.1.2.2.2.2.2.2.2.2.2.2.2.2.2.2.2.2.2.1, y.1.2.2.2.2.2.2.2.2.2.2.2.2.2.2.2.2.2.2.1) (y.2.1.1, y.2.1.2.1, y.2.1.2.2.1, y.2.1.2.2.2.1) }] (fun _ => none) 5000 ⟨⟨fun _ _ => rfl, fun k x y => by kernel_rfl⟩, trivial⟩ (fun k x => by kernel_rfl)

/-! ### loop.example/g00076/impl.Blame$1: function 82 -/
def impl_Blame_1.f (k : Nat) (a0 : S96) (c1 : S42) : Option (Bool) := (impl_isWrong.f k c1 a0).bind fun t1 => (some t1)
def impl_Blame_1.c : FnD := { f := 82, ps := [.agg T96, .cap T42], vc := .c (.bool), bs := [], R := Bool, fn := fun k x => impl_Blame_1.f k x.1 x.2.1, out := fun y => (y, ()), inn := fun d => d.1, inv := fun _ => rfl }
theorem impl_Blame_1.ok : impl_Blame_1.c.OK Tryz.prog :=
  FnD.of impl_Blame_1.c mix tok (fn := Tryz.f82) Tryz.func82 (by kernel_rfl) (fun _ _ => by kernel_rfl) (by kernel_rfl) (by kernel_rfl) [impl_isWrong.c] ⟨impl_isWrong.ok, trivial⟩
    [] (fun _ => none) 5000 trivial (fun k x => by kernel_rfl)

/-! ### slices.IndexFunc[[]loop.example/g00076/impl.Span,loop.example/g00076/impl.Span]: function 81 -/
def slices_IndexFunc_81_82.l4 : Nat → (List S96) → S42 → Int → Int → Option (Int)
  | 0, _, _, _, _ => none
  | k + 1, x0, x1_0, x7, x8 => if x8 < x7 then (if 0 ≤ x8 then (if x8 < (x0.length : Int) then ((impl_Blame_1.f k (rd_T96 x0 x8) x1_0).bind fun t1 => (if t1 = true then (some x8) else (slices_IndexFunc_81_82.l4 k x0 x1_0 x7 (wrap64 (x8 + 1))))) else none) else none) else (some (-1))
def slices_IndexFunc_81_82.f (k : Nat) (a0 : List S96) (p1_0 : S42) : Option (Int) := slices_IndexFunc_81_82.l4 k a0 p1_0 (a0.length : Int) 0
def slices_IndexFunc_81_82.c : FnD := { f := 81, ps := [.c (.sl T96), .fn 82 [T42]], vc := .c (.int .i64), bs := [], R := Int, fn := fun k x => slices_IndexFunc_81_82.f k x.1 x.2.1.1, out := fun y => (y, ()), inn := fun d => d.1, inv := fun _ => rfl }
theorem slices_IndexFunc_81_82.ok : slices_IndexFunc_81_82.c.OK Tryz.prog :=
  FnD.of slices_IndexFunc_81_82.c mix tok (fn := Tryz.f81) Tryz.func81 (by kernel_rfl) (fun _ _ => by kernel_rfl) (by kernel_rfl) (by kernel_rfl) [impl_Blame_1.c] ⟨impl_Blame_1.ok, trivial⟩
    [{ lbl := 4, live := [(0, none), (1, none), (7, none), (8, none)], vs := [.c (.sl false T96), .c (.fn 82 [T42]), .c (.int .i64), .c (.int .i64)], bs := [], f := fun k x y => slices_IndexFunc_81_82.l4 k x.1 x.2.1.1 x.2.2.1 x.2.2.2.1 }] (fun _ => none) 5000 ⟨⟨fun _ _ => rfl, fun k x y => by kernel_rfl⟩, trivial⟩ (fun k x => by kernel_rfl)

/-! ### loop.example/g00076/impl.Blame: function 20 -/
def impl_Blame.f (k : Nat) (a0 : S42) (a1 : List S96) : Option (Int) := (impl_isSound.f k a0).bind fun t1 => (if t1 = true then (if (a1.length : Int) > 5000 then (some (-1)) else ((slices_IndexFunc_81_82.f k a1 a0).bind fun t2 => (some t2))) else (some (-1)))
def impl_Blame.c : FnD := { f := 20, ps := [.agg T42, .c (.sl T96)], vc := .c (.int .i64), bs := [], R := Int, fn := fun k x => impl_Blame.f k x.1 x.2.1, out := fun y => (y, ()), inn := fun d => d.1, inv := fun _ => rfl }
theorem impl_Blame.ok : impl_Blame.c.OK Tryz.prog :=
  FnD.of impl_Blame.c mix tok (fn := Tryz.f20) Tryz.func20 (by kernel_rfl) (fun _ _ => by kernel_rfl) (by kernel_rfl) (by kernel_rfl) [impl_isSound.c, slices_IndexFunc_81_82.c] ⟨impl_isSound.ok, ⟨slices_IndexFunc_81_82.ok, trivial⟩⟩
    [] (fun _ => none) 5000 trivial (fun k x => by kernel_rfl)

/-! ### loop.example/g00076/laws.eqShape: function 84 -/
def laws_eqShape.f (a0 : S36) (a1 : S36) : Option (Bool) := if a0.f0 = a1.f0 then (if a0.f1 = a1.f1 then (if a0.f2 = a1.f2 then (some true) else (some false)) else (some false)) else (some false)
def laws_eqShape.c : FnD := { f := 84, ps := [.agg T36, .agg T36], vc := .c (.bool), bs := [], R := Bool, fn := fun _ x => laws_eqShape.f x.1 x.2.1, out := fun y => (y, ()), inn := fun d => d.1, inv := fun _ => rfl }
theorem laws_eqShape.ok : laws_eqShape.c.OK Tryz.prog :=
  FnD.of laws_eqShape.c mix tok (fn := Tryz.f84) Tryz.func84 (by kernel_rfl) (fun _ _ => by kernel_rfl) (by kernel_rfl) (by kernel_rfl) [] trivial
    [] (fun _ => none) 5000 trivial (fun k x => by kernel_rfl)

/-! ### loop.example/g00076/laws.eqCosts: function 85 -/
def laws_eqCosts.f (a0 : S37) (a1 : S37) : Option (Bool) := if a0.f0 = a1.f0 then (if a0.f1 = a1.f1 then (if a0.f2 = a1.f2 then (if a0.f3 = a1.f3 then (if a0.f4 = a1.f4 then (if a0.f5 = a1.f5 then (if a0.f6 = a1.f6 then (some true) else (some false)) else (some false)) else (some false)) else (some false)) else (some false)) else (some false)) else (some false)
def laws_eqCosts.c : FnD := { f := 85, ps := [.agg T37, .agg T37], vc := .c (.bool), bs := [], R := Bool, fn := fun _ x => laws_eqCosts.f x.1 x.2.1, out := fun y => (y, ()), inn := fun d => d.1, inv := fun _ => rfl }
theorem laws_eqCosts.ok : laws_eqCosts.c.OK Tryz.prog :=
  FnD.of laws_eqCosts.c mix tok (fn := Tryz.f85) Tryz.func85 (by kernel_rfl) (fun _ _ => by kernel_rfl) (by kernel_rfl) (by kernel_rfl) [] trivial
    [] (fun _ => none) 5000 trivial (fun k x => by kernel_rfl)

/-! ### loop.example/g00076/laws.eqPolicy: function 197 -/
def laws_eqPolicy.f (a0 : S125) (a1 : S125) : Option (Bool) := if a0.f0 = a1.f0 then (if a0.f1 = a1.f1 then (some true) else (some false)) else (some false)
def laws_eqPolicy.c : FnD := { f := 197, ps := [.agg T125, .agg T125], vc := .c (.bool), bs := [], R := Bool, fn := fun _ x => laws_eqPolicy.f x.1 x.2.1, out := fun y => (y, ()), inn := fun d => d.1, inv := fun _ => rfl }
theorem laws_eqPolicy.ok : laws_eqPolicy.c.OK Tryz.prog :=
  FnD.of laws_eqPolicy.c mix tok (fn := Tryz.f197) Tryz.func197 (by kernel_rfl) (fun _ _ => by kernel_rfl) (by kernel_rfl) (by kernel_rfl) [] trivial
    [] (fun _ => none) 5000 trivial (fun k x => by kernel_rfl)

/-! ### loop.example/g00076/laws.eqWindow: function 216 -/
def laws_eqWindow.f (a0 : S131) (a1 : S131) : Option (Bool) := if a0.f0 = a1.f0 then (if a0.f1 = a1.f1 then (if a0.f2 = a1.f2 then (some true) else (some false)) else (some false)) else (some false)
def laws_eqWindow.c : FnD := { f := 216, ps := [.agg T131, .agg T131], vc := .c (.bool), bs := [], R := Bool, fn := fun _ x => laws_eqWindow.f x.1 x.2.1, out := fun y => (y, ()), inn := fun d => d.1, inv := fun _ => rfl }
theorem laws_eqWindow.ok : laws_eqWindow.c.OK Tryz.prog :=
  FnD.of laws_eqWindow.c mix tok (fn := Tryz.f216) Tryz.func216 (by kernel_rfl) (fun _ _ => by kernel_rfl) (by kernel_rfl) (by kernel_rfl) [] trivial
    [] (fun _ => none) 5000 trivial (fun k x => by kernel_rfl)

/-! ### loop.example/g00076/laws.eqWindowS: function 198 -/
def laws_eqWindowS.l8 : Nat → (List S131) → (List S131) → Int → Option (Bool)
  | 0, _, _, _ => none
  | k + 1, x0, x1, x5 => if x5 < (x0.length : Int) then (if 0 ≤ x5 then (if x5 < (x0.length : Int) then (if 0 ≤ x5 then (if x5 < (x1.length : Int) then ((laws_eqWindow.f (rd_T131 x0 x5) (rd_T131 x1 x5)).bind fun t1 => (if t1 = true then (laws_eqWindowS.l8 k x0 x1 (wrap64 (x5 + 1))) else (some false))) else none) else none) else none) else none) else (some true)
def laws_eqWindowS.f (k : Nat) (a0 : List S131) (a1 : List S131) : Option (Bool) := if (a0.length : Int) = (a1.length : Int) then (laws_eqWindowS.l8 k a0 a1 0) else (some false)
def laws_eqWindowS.c : FnD := { f := 198, ps := [.c (.sl T131), .c (.sl T131)], vc := .c (.bool), bs := [], R := Bool, fn := fun k x => laws_eqWindowS.f k x.1 x.2.1, out := fun y => (y, ()), inn := fun d => d.1, inv := fun _ => rfl }
theorem laws_eqWindowS.ok : laws_eqWindowS.c.OK Tryz.prog :=
  FnD.of laws_eqWindowS.c mix tok (fn := Tryz.f198) Tryz.func198 (by kernel_rfl) (fun _ _ => by kernel_rfl) (by kernel_rfl) (by kernel_rfl) [laws_eqWindow.c] ⟨laws_eqWindow.ok, trivial⟩
    [{ lbl := 8, live := [(0, none), (1, none), (5, none)], vs := [.c (.sl false T131), .c (.sl false T131), .c (.int .i64)], bs := [], f := fun k x y => laws_eqWindowS.l8 k x.1 x.2.1 x.2.2.1 }] (fun _ => none) 5000 ⟨⟨fun _ _ => rfl, fun k x y => by kernel_rfl⟩, trivial⟩ (fun k x => by kernel_rfl)

/-! ### loop.example/g00076/laws.eqPartRow: function 149 -/
def laws_eqPartRow.f (k : Nat) (a0 : S128) (a1 : S128) : Option (Bool) := if a0.f0 = a1.f0 then (if a0.f1 = a1.f1 then ((laws_eqPolicy.f a0.f2 a1.f2).bind fun t1 => (if t1 = true then ((laws_eqWindowS.f k a0.f3 a1.f3).bind fun t2 => (if t2 = true then (some true) else (some false))) else (some false))) else (some false)) else (some false)
def laws_eqPartRow.c : FnD := { f := 149, ps := [.agg T128, .agg T128], vc := .c (.bool), bs := [], R := Bool, fn := fun k x => laws_eqPartRow.f k x.1 x.2.1, out := fun y => (y, ()), inn := fun d => d.1, inv := fun _ => rfl }
theorem laws_eqPartRow.ok : laws_eqPartRow.c.OK Tryz.prog :=
  FnD.of laws_eqPartRow.c mix tok (fn := Tryz.f149) Tryz.func149 (by kernel_rfl) (fun _ _ => by kernel_rfl) (by kernel_rfl) (by kernel_rfl) [laws_eqPolicy.c, laws_eqWindowS.c] ⟨laws_eqPolicy.ok, ⟨laws_eqWindowS.ok, trivial⟩⟩
    [] (fun _ => none) 5000 trivial (fun k x => by kernel_rfl)

/-! ### loop.example/g00076/laws.eqPartRowS: function 86 -/
def laws_eqPartRowS.l8 : Nat → (List S128) → (List S128) → Int → Option (Bool)
  | 0, _, _, _ => none
  | k + 1, x0, x1, x5 => if x5 < (x0.length : Int) then (if 0 ≤ x5 then (if x5 < (x0.length : Int) then (if 0 ≤ x5 then (if x5 < (x1.length : Int) then ((laws_eqPartRow.f k (rd_T128 x0 x5) (rd_T128 x1 x5)).bind fun t1 => (if t1 = true then (laws_eqPartRowS.l8 k x0 x1 (wrap64 (x5 + 1))) else (some false))) else none) else none) else none) else none) else (some true)
def laws_eqPartRowS.f (k : Nat) (a0 : List S128) (a1 : List S128) : Option (Bool) := if (a0.length : Int) = (a1.length : Int) then (laws_eqPartRowS.l8 k a0 a1 0) else (some false)
def laws_eqPartRowS.c : FnD := { f := 86, ps := [.c (.sl T128), .c (.sl T128)], vc := .c (.bool), bs := [], R := Bool, fn := fun k x => laws_eqPartRowS.f k x.1 x.2.1, out := fun y => (y, ()), inn := fun d => d.1, inv := fun _ => rfl }
theorem laws_eqPartRowS.ok : laws_eqPartRowS.c.OK Tryz.prog :=
  FnD.of laws_eqPartRowS.c mix tok (fn := Tryz.f86) Tryz.func86 (by kernel_rfl) (fun _ _ => by kernel_rfl) (by kernel_rfl) (by kernel_rfl) [laws_eqPartRow.c] ⟨laws_eqPartRow.ok, trivial⟩
    [{ lbl := 8, live := [(0, none), (1, none), (5, none)], vs := [.c (.sl false T128), .c (.sl false T128), .c (.int .i64)], bs := [], f := fun k x y => laws_eqPartRowS.l8 k x.1 x.2.1 x.2.2.1 }] (fun _ => none) 5000 ⟨⟨fun _ _ => rfl, fun k x y => by kernel_rfl⟩, trivial⟩ (fun k x => by kernel_rfl)

/-! ### loop.example/g00076/laws.eqIntS: function 30 -/
def laws_eqIntS.l8 : Nat → (List Int) → (List Int) → Int → Option (Bool)
  | 0, _, _, _ => none
  | k + 1, x0, x1, x5 => if x5 < (x0.length : Int) then (if 0 ≤ x5 then (if x5 < (x0.length : Int) then (if 0 ≤ x5 then (if x5 < (x1.length : Int) then (if (rd x0 x5) = (rd x1 x5) then (laws_eqIntS.l8 k x0 x1 (wrap64 (x5 + 1))) else (some false)) else none) else none) else none) else none) else (some true)
def laws_eqIntS.f (k : Nat) (a0 : List Int) (a1 : List Int) : Option (Bool) := if (a0.length : Int) = (a1.length : Int) then (laws_eqIntS.l8 k a0 a1 0) else (some false)
def laws_eqIntS.c : FnD := { f := 30, ps := [.c (.sl (.int .i64)), .c (.sl (.int .i64))], vc := .c (.bool), bs := [], R := Bool, fn := fun k x => laws_eqIntS.f k x.1 x.2.1, out := fun y => (y, ()), inn := fun d => d.1, inv := fun _ => rfl }
theorem laws_eqIntS.ok : laws_eqIntS.c.OK Tryz.prog :=
  FnD.of laws_eqIntS.c mix tok (fn := Tryz.f30) Tryz.func30 (by kernel_rfl) (fun _ _ => by kernel_rfl) (by kernel_rfl) (by kernel_rfl) [] trivial
    [{ lbl := 8, live := [(0, none), (1, none), (5, none)], vs := [.c (.sl false (.int .i64)), .c (.sl false (.int .i64)), .c (.int .i64)], bs := [], f := fun k x y => laws_eqIntS.l8 k x.1 x.2.1 x.2.2.1 }] (fun _ => none) 5000 ⟨⟨fun _ _ => rfl, fun k x y => by kernel_rfl⟩, trivial⟩ (fun k x => by kernel_rfl)

/-! ### loop.example/g00076/laws.eqChanRow: function 150 -/
def laws_eqChanRow.f (a0 : S119) (a1 : S119) : Option (Bool) := if a0.f0 = a1.f0 then (if a0.f1 = a1.f1 then (if a0.f2 = a1.f2 then (if a0.f3 = a1.f3 then (some true) else (some false)) else (some false)) else (some false)) else (some false)
def laws_eqChanRow.c : FnD := { f := 150, ps := [.agg T119, .agg T119], vc := .c (.bool), bs := [], R := Bool, fn := fun _ x => laws_eqChanRow.f x.1 x.2.1, out := fun y => (y, ()), inn := fun d => d.1, inv := fun _ => rfl }
theorem laws_eqChanRow.ok : laws_eqChanRow.c.OK Tryz.prog :=
  FnD.of laws_eqChanRow.c mix tok (fn := Tryz.f150) Tryz.func150 (by kernel_rfl) (fun _ _ => by kernel_rfl) (by kernel_rfl) (by kernel_rfl) [] trivial
    [] (fun _ => none) 5000 trivial (fun k x => by kernel_rfl)

/-! ### loop.example/g00076/laws.eqChanRowS: function 87 -/
def laws_eqChanRowS.l8 : Nat → (List S119) → (List S119) → Int → Option (Bool)
  | 0, _, _, _ => none
  | k + 1, x0, x1, x5 => if x5 < (x0.length : Int) then (if 0 ≤ x5 then (if x5 < (x0.length : Int) then (if 0 ≤ x5 then (if x5 < (x1.length : Int) then ((laws_eqChanRow.f (rd_T119 x0 x5) (rd_T119 x1 x5)).bind fun t1 => (if t1 = true then (laws_eqChanRowS.l8 k x0 x1 (wrap64 (x5 + 1))) else (some false))) else none) else none) else none) else none) else (some true)
def laws_eqChanRowS.f (k : Nat) (a0 : List S119) (a1 : List S119) : Option (Bool) := if (a0.length : Int) = (a1.length : Int) then (laws_eqChanRowS.l8 k a0 a1 0) else (some false)
def laws_eqChanRowS.c : FnD := { f := 87, ps := [.c (.sl T119), .c (.sl T119)], vc := .c (.bool), bs := [], R := Bool, fn := fun k x => laws_eqChanRowS.f k x.1 x.2.1, out := fun y => (y, ()), inn := fun d => d.1, inv := fun _ => rfl }
theorem laws_eqChanRowS.ok : laws_eqChanRowS.c.OK Tryz.prog :=
  FnD.of laws_eqChanRowS.c mix tok (fn := Tryz.f87) Tryz.func87 (by kernel_rfl) (fun _ _ => by kernel_rfl) (by kernel_rfl) (by kernel_rfl) [laws_eqChanRow.c] ⟨laws_eqChanRow.ok, trivial⟩
    [{ lbl := 8, live := [(0, none), (1, none), (5, none)], vs := [.c (.sl false T119), .c (.sl false T119), .c (.int .i64)], bs := [], f := fun k x y => laws_eqChanRowS.l8 k x.1 x.2.1 x.2.2.1 }] (fun _ => none) 5000 ⟨⟨fun _ _ => rfl, fun k x y => by kernel_rfl⟩, trivial⟩ (fun k x => by kernel_rfl)

/-! ### loop.example/g00076/laws.eqSlot: function 151 -/
def laws_eqSlot.f (a0 : S140) (a1 : S140) : Option (Bool) := if a0.f0 = a1.f0 then (if a0.f1 = a1.f1 then (if a0.f2 = a1.f2 then (some true) else (some false)) else (some false)) else (some false)
def laws_eqSlot.c : FnD := { f := 151, ps := [.agg T140, .agg T140], vc := .c (.bool), bs := [], R := Bool, fn := fun _ x => laws_eqSlot.f x.1 x.2.1, out := fun y => (y, ()), inn := fun d => d.1, inv := fun _ => rfl }
theorem laws_eqSlot.ok : laws_eqSlot.c.OK Tryz.prog :=
  FnD.of laws_eqSlot.c mix tok (fn := Tryz.f151) Tryz.func151 (by kernel_rfl) (fun _ _ => by kernel_rfl) (by kernel_rfl) (by kernel_rfl) [] trivial
    [] (fun _ => none) 5000 trivial (fun k x => by kernel_rfl)

/-! ### loop.example/g00076/laws.eqSlotS: function 88 -/
def laws_eqSlotS.l8 : Nat → (List S140) → (List S140) → Int → Option (Bool)
  | 0, _, _, _ => none
  | k + 1, x0, x1, x5 => if x5 < (x0.length : Int) then (if 0 ≤ x5 then (if x5 < (x0.length : Int) then (if 0 ≤ x5 then (if x5 < (x1.length : Int) then ((laws_eqSlot.f (rd_T140 x0 x5) (rd_T140 x1 x5)).bind fun t1 => (if t1 = true then (laws_eqSlotS.l8 k x0 x1 (wrap64 (x5 + 1))) else (some false))) else none) else none) else none) else none) else (some true)
def laws_eqSlotS.f (k : Nat) (a0 : List S140) (a1 : List S140) : Option (Bool) := if (a0.length : Int) = (a1.length : Int) then (laws_eqSlotS.l8 k a0 a1 0) else (some false)
def laws_eqSlotS.c : FnD := { f := 88, ps := [.c (.sl T140), .c (.sl T140)], vc := .c (.bool), bs := [], R := Bool, fn := fun k x => laws_eqSlotS.f k x.1 x.2.1, out := fun y => (y, ()), inn := fun d => d.1, inv := fun _ => rfl }
theorem laws_eqSlotS.ok : laws_eqSlotS.c.OK Tryz.prog :=
  FnD.of laws_eqSlotS.c mix tok (fn := Tryz.f88) Tryz.func88 (by kernel_rfl) (fun _ _ => by kernel_rfl) (by kernel_rfl) (by kernel_rfl) [laws_eqSlot.c] ⟨laws_eqSlot.ok, trivial⟩
    [{ lbl := 8, live := [(0, none), (1, none), (5, none)], vs := [.c (.sl false T140), .c (.sl false T140), .c (.int .i64)], bs := [], f := fun k x y => laws_eqSlotS.l8 k x.1 x.2.1 x.2.2.1 }] (fun _ => none) 5000 ⟨⟨fun _ _ => rfl, fun k x y => by kernel_rfl⟩, trivial⟩ (fun k x => by kernel_rfl)

/-! ### loop.example/g00076/laws.eqTables: function 21 -/
def laws_eqTables.f (k : Nat) (a0 : S42) (a1 : S42) : Option (Bool) := if a0.f0 = a1.f0 then ((laws_eqShape.f a0.f1 a1.f1).bind fun t1 => (if t1 = true then (if a0.f2 = a1.f2 then ((laws_eqCosts.f a0.f3 a1.f3).bind fun t2 => (if t2 = true then (if a0.f4 = a1.f4 then (if a0.f5 = a1.f5 then (if a0.f6 = a1.f6 then ((laws_eqPartRowS.f k a0.f7 a1.f7).bind fun t3 => (if t3 = true then ((laws_eqIntS.f k a0.f8 a1.f8).bind fun t4 => (if t4 = true then ((laws_eqChanRowS.f k a0.f9 a1.f9).bind fun t5 => (if t5 = true then ((laws_eqSlotS.f k a0.f10 a1.f10).bind fun t6 => (if t6 = true then (some true) else (some false))) else (some false))) else (some false))) else (some false))) else (some false)) else (some false)) else (some false)) else (some false))) else (some false)) else (some false))) else (some false)
def laws_eqTables.c : FnD := { f := 21, ps := [.agg T42, .agg T42], vc := .c (.bool), bs := [], R := Bool, fn := fun k x => laws_eqTables.f k x.1 x.2.1, out := fun y => (y, ()), inn := fun d => d.1, inv := fun _ => rfl }
theorem laws_eqTables.ok : laws_eqTables.c.OK Tryz.prog :=
  FnD.of laws_eqTables.c mix tok (fn := Tryz.f21) Tryz.func21 (by kernel_rfl) (fun _ _ => by kernel_rfl) (by kernel_rfl) (by kernel_rfl) [laws_eqShape.c, laws_eqCosts.c, laws_eqPartRowS.c, laws_eqIntS.c, laws_eqChanRowS.c, laws_eqSlotS.c] ⟨laws_eqShape.ok, ⟨laws_eqCosts.ok, ⟨laws_eqPartRowS.ok, ⟨laws_eqIntS.ok, ⟨laws_eqChanRowS.ok, ⟨laws_eqSlotS.ok, trivial⟩⟩⟩⟩⟩⟩
    [] (fun _ => none) 5000 trivial (fun k x => by kernel_rfl)

/-! ### loop.example/g00076/laws.eqSpan: function 89 -/
def laws_eqSpan.f (a0 : S96) (a1 : S96) : Option (Bool) := if a0.f0 = a1.f0 then (if a0.f1 = a1.f1 then (if a0.f2 = a1.f2 then (if a0.f3 = a1.f3 then (some true) else (some false)) else (some false)) else (some false)) else (some false)
def laws_eqSpan.c : FnD := { f := 89, ps := [.agg T96, .agg T96], vc := .c (.bool), bs := [], R := Bool, fn := fun _ x => laws_eqSpan.f x.1 x.2.1, out := fun y => (y, ()), inn := fun d => d.1, inv := fun _ => rfl }
theorem laws_eqSpan.ok : laws_eqSpan.c.OK Tryz.prog :=
  FnD.of laws_eqSpan.c mix tok (fn := Tryz.f89) Tryz.func89 (by kernel_rfl) (fun _ _ => by kernel_rfl) (by kernel_rfl) (by kernel_rfl) [] trivial
    [] (fun _ => none) 5000 trivial (fun k x => by kernel_rfl)

/-! ### loop.example/g00076/laws.eqSpanS: function 22 -/
def laws_eqSpanS.l8 : Nat → (List S96) → (List S96) → Int → Option (Bool)
  | 0, _, _, _ => none
  | k + 1, x0, x1, x5 => if x5 < (x0.length : Int) then (if 0 ≤ x5 then (if x5 < (x0.length : Int) then (if 0 ≤ x5 then (if x5 < (x1.length : Int) then ((laws_eqSpan.f (rd_T96 x0 x5) (rd_T96 x1 x5)).bind fun t1 => (if t1 = true then (laws_eqSpanS.l8 k x0 x1 (wrap64 (x5 + 1))) else (some false))) else none) else none) else none) else none) else (some true)
def laws_eqSpanS.f (k : Nat) (a0 : List S96) (a1 : List S96) : Option (Bool) := if (a0.length : Int) = (a1.length : Int) then (laws_eqSpanS.l8 k a0 a1 0) else (some false)
def laws_eqSpanS.c : FnD := { f := 22, ps := [.c (.sl T96), .c (.sl T96)], vc := .c (.bool), bs := [], R := Bool, fn := fun k x => laws_eqSpanS.f k x.1 x.2.1, out := fun y => (y, ()), inn := fun d => d.1, inv := fun _ => rfl }
theorem laws_eqSpanS.ok : laws_eqSpanS.c.OK Tryz.prog :=
  FnD.of laws_eqSpanS.c mix tok (fn := Tryz.f22) Tryz.func22 (by kernel_rfl) (fun _ _ => by kernel_rfl) (by kernel_rfl) (by kernel_rfl) [laws_eqSpan.c] ⟨laws_eqSpan.ok, trivial⟩
    [{ lbl := 8, live := [(0, none), (1, none), (5, none)], vs := [.c (.sl false T96), .c (.sl false T96), .c (.int .i64)], bs := [], f := fun k x y => laws_eqSpanS.l8 k x.1 x.2.1 x.2.2.1 }] (fun _ => none) 5000 ⟨⟨fun _ _ => rfl, fun k x y => by kernel_rfl⟩, trivial⟩ (fun k x => by kernel_rfl)

/-! ### loop.example/g00076/laws.FnExactBlame: function 3 -/
def laws_FnExactBlame.f (k : Nat) (a0 : S31) (a1 : List S106) : Option (Bool) := (laws_szTables.f k a0 1048576).bind fun t1 => (if t1 < 0 then (some true) else ((laws_szSpanS.f a1 t1).bind fun t2 => (if t2 < 0 then (some true) else ((laws_toTables.f k a0).bind fun t3 => ((laws_toSpanS.f k a1).bind fun t4 => ((spec_Blame.f k t3 t4).bind fun t5 => ((laws_toTables.f k a0).bind fun t6 => ((laws_toSpanS.f k a1).bind fun t7 => ((impl_Blame.f k t6 t7).bind fun t8 => (if t8 = t5 then ((laws_toTables.f k a0).bind fun t9 => ((laws_eqTables.f k t6 t9).bind fun t10 => (if t10 = true then ((laws_toSpanS.f k a1).bind fun t11 => ((laws_eqSpanS.f k t7 t11).bind fun t12 => (if t12 = true then (some true) else (some false)))) else (some false)))) else (some false)))))))))))
def laws_FnExactBlame.c : FnD := { f := 3, ps := [.agg T31, .c (.sl T106)], vc := .c (.bool), bs := [], R := Bool, fn := fun k x => laws_FnExactBlame.f k x.1 x.2.1, out := fun y => (y, ()), inn := fun d => d.1, inv := fun _ => rfl }
theorem laws_FnExactBlame.ok : laws_FnExactBlame.c.OK Tryz.prog :=
  FnD.of laws_FnExactBlame.c mix tok (fn := Tryz.f3) Tryz.func3 (by kernel_rfl) (fun _ _ => by kernel_rfl) (by kernel_rfl) (by kernel_rfl) [laws_szTables.c, laws_szSpanS.c, laws_toTables.c, laws_toSpanS.c, spec_Blame.c, impl_Blame.c, laws_eqTables.c, laws_eqSpanS.c] ⟨laws_szTables.ok, ⟨laws_szSpanS.ok, ⟨laws_toTables.ok, ⟨laws_toSpanS.ok, ⟨spec_Blame.ok, ⟨impl_Blame.ok, ⟨laws_eqTables.ok, ⟨laws_eqSpanS.ok, trivial⟩⟩⟩⟩⟩⟩⟩⟩
    [] (fun _ => none) 5000 trivial (fun k x => by kernel_rfl)

/-! ### loop.example/g00076/laws.szByteS: function 152 -/
def laws_szByteS.f (a0 : List Int) (a1 : Int) : Option (Int) := if (wrap64 (a1 - (a0.length : Int))) < 0 then (some (-1)) else (some (wrap64 (a1 - (a0.length : Int))))
def laws_szByteS.c : FnD := { f := 152, ps := [.c (.sl (.int .u8)), .c (.int .i64)], vc := .c (.int .i64), bs := [], R := Int, fn := fun _ x => laws_szByteS.f x.1 x.2.1, out := fun y => (y, ()), inn := fun d => d.1, inv := fun _ => rfl }
theorem laws_szByteS.ok : laws_szByteS.c.OK Tryz.prog :=
  FnD.of laws_szByteS.c mix tok (fn := Tryz.f152) Tryz.func152 (by kernel_rfl) (fun _ _ => by kernel_rfl) (by kernel_rfl) (by kernel_rfl) [] trivial
    [] (fun _ => none) 5000 trivial (fun k x => by kernel_rfl)

/-! ### loop.example/g00076/laws.szByteSS: function 90 -/
def laws_szByteSS.l10 : Nat → (List (List Int)) → Int → Int → Option (Int)
  | 0, _, _, _ => none
  | k + 1, x0, x1, x5 => if x5 < (x0.length : Int) then (if 0 ≤ x5 then (if x5 < (x0.length : Int) then ((laws_szByteS.f (rd_ListInt x0 x5) x1).bind fun t1 => (if t1 < 0 then (some (-1)) else (laws_szByteSS.l10 k x0 t1 (wrap64 (x5 + 1))))) else none) else none) else (some x1)
def laws_szByteSS.f (k : Nat) (a0 : List (List Int)) (a1 : Int) : Option (Int) := if (wrap64 (a1 - (a0.length : Int))) < 0 then (some (-1)) else (laws_szByteSS.l10 k a0 (wrap64 (a1 - (a0.length : Int))) 0)
def laws_szByteSS.c : FnD := { f := 90, ps := [.c (.sl (.sl (.int .u8))), .c (.int .i64)], vc := .c (.int .i64), bs := [], R := Int, fn := fun k x => laws_szByteSS.f k x.1 x.2.1, out := fun y => (y, ()), inn := fun d => d.1, inv := fun _ => rfl }
theorem laws_szByteSS.ok : laws_szByteSS.c.OK Tryz.prog :=
  FnD.of laws_szByteSS.c mix tok (fn := Tryz.f90) Tryz.func90 (by kernel_rfl) (fun _ _ => by kernel_rfl) (by kernel_rfl) (by kernel_rfl) [laws_szByteS.c] ⟨laws_szByteS.ok, trivial⟩
    [{ lbl := 10, live := [(0, none), (1, none), (5, none)], vs := [.c (.sl false (.sl (.int .u8))), .c (.int .i64), .c (.int .i64)], bs := [], f := fun k x y => laws_szByteSS.l10 k x.1 x.2.1 x.2.2.1 }] (fun _ => none) 5000 ⟨⟨fun _ _ => rfl, fun k x y => by kernel_rfl⟩, trivial⟩ (fun k x => by kernel_rfl)

/-! ### loop.example/g00076/laws.szByteSSS: function 23 -/
def laws_szByteSSS.l10 : Nat → (List (List (List Int))) → Int → Int → Option (Int)
  | 0, _, _, _ => none
  | k + 1, x0, x1, x5 => if x5 < (x0.length : Int) then (if 0 ≤ x5 then (if x5 < (x0.length : Int) then ((laws_szByteSS.f k (rd_ListListInt x0 x5) x1).bind fun t1 => (if t1 < 0 then (some (-1)) else (laws_szByteSSS.l10 k x0 t1 (wrap64 (x5 + 1))))) else none) else none) else (some x1)
def laws_szByteSSS.f (k : Nat) (a0 : List (List (List Int))) (a1 : Int) : Option (Int) := if (wrap64 (a1 - (a0.length : Int))) < 0 then (some (-1)) else (laws_szByteSSS.l10 k a0 (wrap64 (a1 - (a0.length : Int))) 0)
def laws_szByteSSS.c : FnD := { f := 23, ps := [.c (.sl (.sl (.sl (.int .u8)))), .c (.int .i64)], vc := .c (.int .i64), bs := [], R := Int, fn := fun k x => laws_szByteSSS.f k x.1 x.2.1, out := fun y => (y, ()), inn := fun d => d.1, inv := fun _ => rfl }
theorem laws_szByteSSS.ok : laws_szByteSSS.c.OK Tryz.prog :=
  FnD.of laws_szByteSSS.c mix tok (fn := Tryz.f23) Tryz.func23 (by kernel_rfl) (fun _ _ => by kernel_rfl) (by kernel_rfl) (by kernel_rfl) [laws_szByteSS.c] ⟨laws_szByteSS.ok, trivial⟩
    [{ lbl := 10, live := [(0, none), (1, none), (5, none)], vs := [.c (.sl false (.sl (.sl (.int .u8)))), .c (.int .i64), .c (.int .i64)], bs := [], f := fun k x y => laws_szByteSSS.l10 k x.1 x.2.1 x.2.2.1 }] (fun _ => none) 5000 ⟨⟨fun _ _ => rfl, fun k x y => by kernel_rfl⟩, trivial⟩ (fun k x => by kernel_rfl)

/-! ### loop.example/g00076/laws.toByteS: function 153 -/
def laws_toByteS.l6 : Nat → (List Int) → Int → (List Int) → Option ((List Int))
  | 0, _, _, _ => none
  | k + 1, x0, x4, h0 => if x4 < (x0.length : Int) then (if 0 ≤ x4 then (if x4 < (x0.length : Int) then (if 0 ≤ x4 then (if x4 < (h0.length : Int) then (laws_toByteS.l6 k x0 (wrap64 (x4 + 1)) (h0.set x4.toNat (rd x0 x4))) else none) else none) else none) else none) else (some h0)
def laws_toByteS.f (k : Nat) (a0 : List Int) : Option ((List Int)) := if 0 ≤ (a0.length : Int) then (if (a0.length : Int) ≤ (a0.length : Int) then (if (a0.length : Int).toNat ≤ 281474976710656 then (laws_toByteS.l6 k a0 0 (List.replicate (a0.length : Int).toNat 0)) else none) else none) else none
def laws_toByteS.c : FnD := { f := 153, ps := [.c (.sl (.int .u8))], vc := .c (.own 0), bs := [.arr (.int .u8) 5 true], R := (List Int), fn := fun k x => laws_toByteS.f k x.1, out := fun y => ((), (y, ())), inn := fun d => d.2.1, inv := fun _ => rfl }
theorem laws_toByteS.ok : laws_toByteS.c.OK Tryz.prog :=
  FnD.of laws_toByteS.c mix tok (fn := Tryz.f153) Tryz.func153 (by kernel_rfl) (fun _ _ => by kernel_rfl) (by kernel_rfl) (by kernel_rfl) [] trivial
    [{ lbl := 6, live := [(0, none), (3, none), (4, none)], vs := [.c (.sl false (.int .u8)), .c (.own 0), .c (.int .i64)], bs := [.arr (.int .u8) 5 true], f := fun k x y => laws_toByteS.l6 k x.1 x.2.2.1 y.1 }] (fun _ => none) 5000 ⟨⟨fun _ _ => rfl, fun k x y => by kernel_rfl⟩, trivial⟩ (fun k x => by kernel_rfl)

/-! ### loop.example/g00076/laws.toByteSS: function 92 -/
def laws_toByteSS.l6 : Nat → (List (List Int)) → Int → (List (List Int)) → Option ((List (List Int)))
  | 0, _, _, _ => none
  | k + 1, x0, x4, h0 => if x4 < (x0.length : Int) then (if 0 ≤ x4 then (if x4 < (x0.length : Int) then ((laws_toByteS.f k (rd_ListInt x0 x4)).bind fun t1 => (if 0 ≤ x4 then (if x4 < (h0.length : Int) then (laws_toByteSS.l6 k x0 (wrap64 (x4 + 1)) (h0.set x4.toNat t1)) else none) else none)) else none) else none) else (some h0)
def laws_toByteSS.f (k : Nat) (a0 : List (List Int)) : Option ((List (List Int))) := if 0 ≤ (a0.length : Int) then (if (a0.length : Int) ≤ (a0.length : Int) then (if (a0.length : Int).toNat ≤ 11728124029610 then (laws_toByteSS.l6 k a0 0 (List.replicate (a0.length : Int).toNat ([] : List Int))) else none) else none) else none
def laws_toByteSS.c : FnD := { f := 92, ps := [.c (.sl (.sl (.int .u8)))], vc := .c (.own 0), bs := [.arr (.sl (.int .u8)) 132 true], R := (List (List Int)), fn := fun k x => laws_toByteSS.f k x.1, out := fun y => ((), (y, ())), inn := fun d => d.2.1, inv := fun _ => rfl }
theorem laws_toByteSS.ok : laws_toByteSS.c.OK Tryz.prog :=
  FnD.of laws_toByteSS.c mix tok (fn := Tryz.f92) Tryz.func92 (by kernel_rfl) (fun _ _ => by kernel_rfl) (by kernel_rfl) (by kernel_rfl) [laws_toByteS.c] ⟨laws_toByteS.ok, trivial⟩
    [{ lbl := 6, live := [(0, none), (3, none), (4, none)], vs := [.c (.sl false (.sl (.int .u8))), .c (.own 0), .c (.int .i64)], bs := [.arr (.sl (.int .u8)) 132 true], f := fun k x y => laws_toByteSS.l6 k x.1 x.2.2.1 y.1 }] (fun _ => none) 5000 ⟨⟨fun _ _ => rfl, fun k x y => by kernel_rfl⟩, trivial⟩ (fun k x => by kernel_rfl)

/-! ### loop.example/g00076/laws.toByteSSS: function 25 -/
def laws_toByteSSS.l6 : Nat → (List (List (List Int))) → Int → (List (List (List Int))) → Option ((List (List (List Int))))
  | 0, _, _, _ => none
  | k + 1, x0, x4, h0 => if x4 < (x0.length : Int) then (if 0 ≤ x4 then (if x4 < (x0.length : Int) then ((laws_toByteSS.f k (rd_ListListInt x0 x4)).bind fun t1 => (if 0 ≤ x4 then (if x4 < (h0.length : Int) then (laws_toByteSSS.l6 k x0 (wrap64 (x4 + 1)) (h0.set x4.toNat t1)) else none) else none)) else none) else none) else (some h0)
def laws_toByteSSS.f (k : Nat) (a0 : List (List (List Int))) : Option ((List (List (List Int)))) := if 0 ≤ (a0.length : Int) then (if (a0.length : Int) ≤ (a0.length : Int) then (if (a0.length : Int).toNat ≤ 11728124029610 then (laws_toByteSSS.l6 k a0 0 (List.replicate (a0.length : Int).toNat ([] : List (List Int)))) else none) else none) else none
def laws_toByteSSS.c : FnD := { f := 25, ps := [.c (.sl (.sl (.sl (.int .u8))))], vc := .c (.own 0), bs := [.arr (.sl (.sl (.int .u8))) 63 true], R := (List (List (List Int))), fn := fun k x => laws_toByteSSS.f k x.1, out := fun y => ((), (y, ())), inn := fun d => d.2.1, inv := fun _ => rfl }
theorem laws_toByteSSS.ok : laws_toByteSSS.c.OK Tryz.prog :=
  FnD.of laws_toByteSSS.c mix tok (fn := Tryz.f25) Tryz.func25 (by kernel_rfl) (fun _ _ => by kernel_rfl) (by kernel_rfl) (by kernel_rfl) [laws_toByteSS.c] ⟨laws_toByteSS.ok, trivial⟩
    [{ lbl := 6, live := [(0, none), (3, none), (4, none)], vs := [.c (.sl false (.sl (.sl (.int .u8)))), .c (.own 0), .c (.int .i64)], bs := [.arr (.sl (.sl (.int .u8))) 63 true], f := fun k x y => laws_toByteSSS.l6 k x.1 x.2.2.1 y.1 }] (fun _ => none) 5000 ⟨⟨fun _ _ => rfl, fun k x y => by kernel_rfl⟩, trivial⟩ (fun k x => by kernel_rfl)

/-! ### loop.example/g00076/spec.l17Fits: function 91 -/
def spec_l17Fits.l8 : Nat → Int → (List (List Int)) → Int → S42 → Option (Bool)
  | 0, _, _, _, _ => none
  | k + 1, x1, x2, x7, y0 => if x7 < (x2.length : Int) then (if 0 ≤ x7 then (if x7 < (x2.length : Int) then (if 0 ≤ x1 then (if x1 < (y0.f7.length : Int) then (if 0 ≤ x7 then (if x7 < (((rd_T128 y0.f7 x1).f3).length : Int) then (if ((rd_ListInt x2 x7).length : Int) = (rd_T131 ((rd_T128 y0.f7 x1).f3) x7).f1 then (spec_l17Fits.l8 k x1 x2 (wrap64 (x7 + 1)) y0) else (some false)) else none) else none) else none) else none) else none) else none) else (some true)
def spec_l17Fits.f (k : Nat) (a0 : S42) (a1 : Int) (a2 : List (List Int)) : Option (Bool) := (spec_l01In.f a1 0 (wrap64 ((a0.f7.length : Int) - 1))).bind fun t1 => (if t1 = true then (if 0 ≤ a1 then (if a1 < (a0.f7.length : Int) then (if (a2.length : Int) = (((rd_T128 a0.f7 a1).f3).length : Int) then (spec_l17Fits.l8 k a1 a2 0 a0) else (some false)) else none) else none) else (some false))
def spec_l17Fits.c : FnD := { f := 91, ps := [.agg T42, .c (.int .i64), .c (.sl (.sl (.int .u8)))], vc := .c (.bool), bs := [], R := Bool, fn := fun k x => spec_l17Fits.f k x.1 x.2.1 x.2.2.1, out := fun y => (y, ()), inn := fun d => d.1, inv := fun _ => rfl }
theorem spec_l17Fits.ok : spec_l17Fits.c.OK Tryz.prog :=
  FnD.of spec_l17Fits.c mix tok (fn := Tryz.f91) Tryz.func91 (by kernel_rfl) (fun _ _ => by kernel_rfl) (by kernel_rfl) (by kernel_rfl) [spec_l01In.c] ⟨spec_l01In.ok, trivial⟩
    [{ lbl := 8, live := [(1, none), (2, none), (3, none), (7, none)], vs := [.c (.int .i64), .c (.sl false (.sl (.int .u8))), .c (.ptr 0 0), .c (.int .i64)], bs := [.cells 42 [.int .i64, .int .i64, .int .i64, .int .i64, .int .i64, .int .i64, .int .i64, .int .i64, .int .i64, .int .i64, .int .i64, .int .i64, .int .i64, .int .i64, .int .i64, .sl false T128, .sl false (.int .i64), .sl false T119, .sl false T140]], f := fun k x y => spec_l17Fits.l8 k x.1 x.2.1 x.2.2.2.1 (y.1.1, (y.1.2.1, y.1.2.2.1, y.1.2.2.2.1), y.1.2.2.2.2.1, (y.1.2.2.2.2.2.1, y.1.2.2.2.2.2.2.1, y.1.2.2.2.2.2.2.2.1, y.1.2.2.2.2.2.2.2.2.1, y.1.2.2.2.2.2.2.2.2.2.1, y.1.2.2.2.2.2.2.2.2.2.2.1, y.1.2.2.2.2.2.2.2.2.2.2.2.1), y.1.2.2.2.2.2.2.2.2.2.2.2.2.1, y.1.2.2.2.2.2.2.2.2.2.2.2.2.2.1, y.1.2.2.2.2.2.2.2.2.2.2.2.2.2.2.1, y.1.2.2.2.2.2.2.2.2.2.2.2.2.2.2.2.1, y.1.2.2.2.2.2.2.2.2.2.2.2.2.2.2.2.2.1, y.1.2.2.2.2.2.2.2.2.2.2.2.2.2.2.2.2.2.1, y.1.2.2.2.2.2.2.2.2.2.2.2.2.2.2.2.2.2.2.1) }] (fun _ => none) 5000 ⟨⟨fun _ _ => rfl, fun k x y => by kernel_rfl⟩, trivial⟩ (fun k x => by kernel_rfl)

/-! ### loop.example/g00076/spec.ImagesOk: function 24 -/
def spec_ImagesOk.l8 : Nat → (List (List (List Int))) → Int → S42 → Option (Bool)
  | 0, _, _, _ => none
  | k + 1, x1, x5, y0 => if x5 < (x1.length : Int) then (if 0 ≤ x5 then (if x5 < (x1.length : Int) then ((spec_l17Fits.f k y0 x5 (rd_ListListInt x1 x5)).bind fun t2 => (if t2 = true then (spec_ImagesOk.l8 k x1 (wrap64 (x5 + 1)) y0) else (some false))) else none) else none) else (some true)
def spec_ImagesOk.f (k : Nat) (a0 : S42) (a1 : List (List (List Int))) : Option (Bool) := (spec_Sound.f k a0).bind fun t1 => (if t1 = true then (if (a1.length : Int) = (a0.f7.length : Int) then (spec_ImagesOk.l8 k a1 0 a0) else (some false)) else (some false))
def spec_ImagesOk.c : FnD := { f := 24, ps := [.agg T42, .c (.sl (.sl (.sl (.int .u8))))], vc := .c (.bool), bs := [], R := Bool, fn := fun k x => spec_ImagesOk.f k x.1 x.2.1, out := fun y => (y, ()), inn := fun d => d.1, inv := fun _ => rfl }
theorem spec_ImagesOk.ok : spec_ImagesOk.c.OK Tryz.prog :=
  FnD.of spec_ImagesOk.c mix tok (fn := Tryz.f24) Tryz.func24 (by kernel_rfl) (fun _ _ => by kernel_rfl) (by kernel_rfl) (by kernel_rfl) [spec_Sound.c, spec_l17Fits.c] ⟨spec_Sound.ok, ⟨spec_l17Fits.ok, trivial⟩⟩
    [{ lbl := 8, live := [(1, none), (2, none), (5, none)], vs := [.c (.sl false (.sl (.sl (.int .u8)))), .c (.ptr 0 0), .c (.int .i64)], bs := [.cells 42 [.int .i64, .int .i64, .int .i64, .int .i64, .int .i64, .int .i64, .int .i64, .int .i64, .int .i64, .int .i64, .int .i64, .int .i64, .int .i64, .int .i64, .int .i64, .sl false T128, .sl false (.int .i64), .sl false T119, .sl false T140]], f := fun k x y => spec_ImagesOk.l8 k x.1 x.2.2.1 (y.1.1, (y.1.2.1, y.1.2.2.1, y.1.2.2.2.1), y.1.2.2.2.2.1, (y.1.2.2.2.2.2.1, y.1.2.2.2.2.2.2.1, y.1.2.2.2.2.2.2.2.1, y.1.2.2.2.2.2.2.2.2.1, y.1.2.2.2.2.2.2.2.2.2.1, y.1.2.2.2.2.2.2.2.2.2.2.1, y.1.2.2.2.2.2.2.2.2.2.2.2.1), y.1.2.2.2.2.2.2.2.2.2.2.2.2.1, y.1.2.2.2.2.2.2.2.2.2.2.2.2.2.1, y.1.2.2.2.2.2.2.2.2.2.2.2.2.2.2.1, y.1.2.2.2.2.2.2.2.2.2.2.2.2.2.2.2.1, y.1.2.2.2.2.2.2.2.2.2.2.2.2.2.2.2.2.1, y.1.2.2.2.2.2.2.2.2.2.2.2.2.2.2.2.2.2.1, y.1.2.2.2.2.2.2.2.2.2.2.2.2.2.2.2.2.2.2.1) }] (fun _ => none) 5000 ⟨⟨fun _ _ => rfl, fun k x y => by kernel_rfl⟩, trivial⟩ (fun k x => by kernel_rfl)

/-! ### loop.example/g00076/impl.isImage: function 154 -/
def impl_isImage.l8 : Nat → (List (List Int)) → (List S131) → Int → Int → Option (Bool)
  | 0, _, _, _, _ => none
  | k + 1, x2, x33, x34, x35 => if x35 < x34 then (if 0 ≤ x35 then (if x35 < (x33.length : Int) then (if 0 ≤ x35 then (if x35 < (x2.length : Int) then (if ((rd_ListInt x2 x35).length : Int) = (rd_T131 x33 x35).f1 then (impl_isImage.l8 k x2 x33 x34 (wrap64 (x35 + 1))) else (some false)) else none) else none) else none) else none) else (some true)
def impl_isImage.f (k : Nat) (a0 : S42) (a1 : Int) (a2 : List (List Int)) : Option (Bool) := (impl_within.f a1 0 (wrap64 ((a0.f7.length : Int) - 1))).bind fun t1 => (if t1 = true then (if 0 ≤ a1 then (if a1 < (a0.f7.length : Int) then (if (a2.length : Int) = (((rd_T128 a0.f7 a1).f3).length : Int) then (if 0 ≤ a1 then (if a1 < (a0.f7.length : Int) then (impl_isImage.l8 k a2 ((rd_T128 a0.f7 a1).f3) (((rd_T128 a0.f7 a1).f3).length : Int) 0) else none) else none) else (some false)) else none) else none) else (some false))
def impl_isImage.c : FnD := { f := 154, ps := [.agg T42, .c (.int .i64), .c (.sl (.sl (.int .u8)))], vc := .c (.bool), bs := [], R := Bool, fn := fun k x => impl_isImage.f k x.1 x.2.1 x.2.2.1, out := fun y => (y, ()), inn := fun d => d.1, inv := fun _ => rfl }
theorem impl_isImage.ok : impl_isImage.c.OK Tryz.prog :=
  FnD.of impl_isImage.c mix tok (fn := Tryz.f154) Tryz.func154 (by kernel_rfl) (fun _ _ => by kernel_rfl) (by kernel_rfl) (by kernel_rfl) [impl_within.c] ⟨impl_within.ok, trivial⟩
    [{ lbl := 8, live := [(2, none), (33, none), (34, none), (35, none)], vs := [.c (.sl false (.sl (.int .u8))), .c (.sl false T131), .c (.int .i64), .c (.int .i64)], bs := [], f := fun k x y => impl_isImage.l8 k x.1 x.2.1 x.2.2.1 x.2.2.2.1 }] (fun _ => none) 5000 ⟨⟨fun _ _ => rfl, fun k x y => by kernel_rfl⟩, trivial⟩ (fun k x => by kernel_rfl)

/-! ### loop.example/g00076/impl.areImages: function 93 -/
def impl_areImages.l8 : Nat → (List (List (List Int))) → Int → Int → S42 → Option (Bool)
  | 0, _, _, _, _ => none
  | k + 1, x13, x14, x15, y0 => if x15 < x14 then (if 0 ≤ x15 then (if x15 < (x13.length : Int) then ((impl_isImage.f k y0 x15 (rd_ListListInt x13 x15)).bind fun t1 => (if t1 = true then (impl_areImages.l8 k x13 x14 (wrap64 (x15 + 1)) y0) else (some false))) else none) else none) else (some true)
def impl_areImages.f (k : Nat) (a0 : S42) (a1 : List (List (List Int))) : Option (Bool) := if (a1.length : Int) = (a0.f7.length : Int) then (impl_areImages.l8 k a1 (a1.length : Int) 0 a0) else (some false)
def impl_areImages.c : FnD := { f := 93, ps := [.agg T42, .c (.sl (.sl (.sl (.int .u8))))], vc := .c (.bool), bs := [], R := Bool, fn := fun k x => impl_areImages.f k x.1 x.2.1, out := fun y => (y, ()), inn := fun d => d.1, inv := fun _ => rfl }
theorem impl_areImages.ok : impl_areImages.c.OK Tryz.prog :=
  FnD.of impl_areImages.c mix tok (fn := Tryz.f93) Tryz.func93 (by kernel_rfl) (fun _ _ => by kernel_rfl) (by kernel_rfl) (by kernel_rfl) [impl_isImage.c] ⟨impl_isImage.ok, trivial⟩
    [{ lbl := 8, live := [(2, none), (13, none), (14, none), (15, none)], vs := [.c (.ptr 0 0), .c (.sl false (.sl (.sl (.int .u8)))), .c (.int .i64), .c (.int .i64)], bs := [.cells 42 [.int .i64, .int .i64, .int .i64, .int .i64, .int .i64, .int .i64, .int .i64, .int .i64, .int .i64, .int .i64, .int .i64, .int .i64, .int .i64, .int .i64, .int .i64, .sl false T128, .sl false (.int .i64), .sl false T119, .sl false T140]], f := fun k x y => impl_areImages.l8 k x.2.1 x.2.2.1 x.2.2.2.1 (y.1.1, (y.1.2.1, y.1.2.2.1, y.1.2.2.2.1), y.1.2.2.2.2.1, (y.1.2.2.2.2.2.1, y.1.2.2.2.2.2.2.1, y.1.2.2.2.2.2.2.2.1, y.1.2.2.2.2.2.2.2.2.1, y.1.2.2.2.2.2.2.2.2.2.1, y.1.2.2.2.2.2.2.2.2.2.2.1, y.1.2.2.2.2.2.2.2.2.2.2.2.1), y.1.2.2.2.2.2.2.2.2.2.2.2.2.1, y.1.2.2.2.2.2.2.2.2.2.2.2.2.2.1, y.1.2.2.2.2.2.2.2.2.2.2.2.2.2.2.1, y.1.2.2.2.2.2.2.2.2.2.2.2.2.2.2.2.1, y.1.2.2.2.2.2.2.2.2.2.2.2.2.2.2.2.2.1, y.1.2.2.2.2.2.2.2.2.2.2.2.2.2.2.2.2.2.1, y.1.2.2.2.2.2.2.2.2.2.2.2.2.2.2.2.2.2.2.1) }] (fun _ => none) 5000 ⟨⟨fun _ _ => rfl, fun k x y => by kernel_rfl⟩, trivial⟩ (fun k x => by kernel_rfl)

/-! ### loop.example/g00076/impl.ImagesOk: function 26 -/
def impl_ImagesOk.f (k : Nat) (a0 : S42) (a1 : List (List (List Int))) : Option (Bool) := (impl_isSound.f k a0).bind fun t1 => (if t1 = true then ((impl_areImages.f k a0 a1).bind fun t2 => (some t2)) else (some false))
def impl_ImagesOk.c : FnD := { f := 26, ps := [.agg T42, .c (.sl (.sl (.sl (.int .u8))))], vc := .c (.bool), bs := [], R := Bool, fn := fun k x => impl_ImagesOk.f k x.1 x.2.1, out := fun y => (y, ()), inn := fun d => d.1, inv := fun _ => rfl }
theorem impl_ImagesOk.ok : impl_ImagesOk.c.OK Tryz.prog :=
  FnD.of impl_ImagesOk.c mix tok (fn := Tryz.f26) Tryz.func26 (by kernel_rfl) (fun _ _ => by kernel_rfl) (by kernel_rfl) (by kernel_rfl) [impl_isSound.c, impl_areImages.c] ⟨impl_isSound.ok, ⟨impl_areImages.ok, trivial⟩⟩
    [] (fun _ => none) 5000 trivial (fun k x => by kernel_rfl)

/-! ### loop.example/g00076/laws.eqByteS: function 104 -/
def laws_eqByteS.l8 : Nat → (List Int) → (List Int) → Int → Option (Bool)
  | 0, _, _, _ => none
  | k + 1, x0, x1, x5 => if x5 < (x0.length : Int) then (if 0 ≤ x5 then (if x5 < (x0.length : Int) then (if 0 ≤ x5 then (if x5 < (x1.length : Int) then (if (rd x0 x5) = (rd x1 x5) then (laws_eqByteS.l8 k x0 x1 (wrap64 (x5 + 1))) else (some false)) else none) else none) else none) else none) else (some true)
def laws_eqByteS.f (k : Nat) (a0 : List Int) (a1 : List Int) : Option (Bool) := if (a0.length : Int) = (a1.length : Int) then (laws_eqByteS.l8 k a0 a1 0) else (some false)
def laws_eqByteS.c : FnD := { f := 104, ps := [.c (.sl (.int .u8)), .c (.sl (.int .u8))], vc := .c (.bool), bs := [], R := Bool, fn := fun k x => laws_eqByteS.f k x.1 x.2.1, out := fun y => (y, ()), inn := fun d => d.1, inv := fun _ => rfl }
theorem laws_eqByteS.ok : laws_eqByteS.c.OK Tryz.prog :=
  FnD.of laws_eqByteS.c mix tok (fn := Tryz.f104) Tryz.func104 (by kernel_rfl) (fun _ _ => by kernel_rfl) (by kernel_rfl) (by kernel_rfl) [] trivial
    [{ lbl := 8, live := [(0, none), (1, none), (5, none)], vs := [.c (.sl false (.int .u8)), .c (.sl false (.int .u8)), .c (.int .i64)], bs := [], f := fun k x y => laws_eqByteS.l8 k x.1 x.2.1 x.2.2.1 }] (fun _ => none) 5000 ⟨⟨fun _ _ => rfl, fun k x y => by kernel_rfl⟩, trivial⟩ (fun k x => by kernel_rfl)

/-! ### loop.example/g00076/laws.eqByteSS: function 39 -/
def laws_eqByteSS.l8 : Nat → (List (List Int)) → (List (List Int)) → Int → Option (Bool)
  | 0, _, _, _ => none
  | k + 1, x0, x1, x5 => if x5 < (x0.length : Int) then (if 0 ≤ x5 then (if x5 < (x0.length : Int) then (if 0 ≤ x5 then (if x5 < (x1.length : Int) then ((laws_eqByteS.f k (rd_ListInt x0 x5) (rd_ListInt x1 x5)).bind fun t1 => (if t1 = true then (laws_eqByteSS.l8 k x0 x1 (wrap64 (x5 + 1))) else (some false))) else none) else none) else none) else none) else (some true)
def laws_eqByteSS.f (k : Nat) (a0 : List (List Int)) (a1 : List (List Int)) : Option (Bool) := if (a0.length : Int) = (a1.length : Int) then (laws_eqByteSS.l8 k a0 a1 0) else (some false)
def laws_eqByteSS.c : FnD := { f := 39, ps := [.c (.sl (.sl (.int .u8))), .c (.sl (.sl (.int .u8)))], vc := .c (.bool), bs := [], R := Bool, fn := fun k x => laws_eqByteSS.f k x.1 x.2.1, out := fun y => (y, ()), inn := fun d => d.1, inv := fun _ => rfl }
theorem laws_eqByteSS.ok : laws_eqByteSS.c.OK Tryz.prog :=
  FnD.of laws_eqByteSS.c mix tok (fn := Tryz.f39) Tryz.func39 (by kernel_rfl) (fun _ _ => by kernel_rfl) (by kernel_rfl) (by kernel_rfl) [laws_eqByteS.c] ⟨laws_eqByteS.ok, trivial⟩
    [{ lbl := 8, live := [(0, none), (1, none), (5, none)], vs := [.c (.sl false (.sl (.int .u8))), .c (.sl false (.sl (.int .u8))), .c (.int .i64)], bs := [], f := fun k x y => laws_eqByteSS.l8 k x.1 x.2.1 x.2.2.1 }] (fun _ => none) 5000 ⟨⟨fun _ _ => rfl, fun k x y => by kernel_rfl⟩, trivial⟩ (fun k x => by kernel_rfl)

/-! ### loop.example/g00076/laws.eqByteSSS: function 27 -/
def laws_eqByteSSS.l8 : Nat → (List (List (List Int))) → (List (List (List Int))) → Int → Option (Bool)
  | 0, _, _, _ => none
  | k + 1, x0, x1, x5 => if x5 < (x0.length : Int) then (if 0 ≤ x5 then (if x5 < (x0.length : Int) then (if 0 ≤ x5 then (if x5 < (x1.length : Int) then ((laws_eqByteSS.f k (rd_ListListInt x0 x5) (rd_ListListInt x1 x5)).bind fun t1 => (if t1 = true then (laws_eqByteSSS.l8 k x0 x1 (wrap64 (x5 + 1))) else (some false))) else none) else none) else none) else none) else (some true)
def laws_eqByteSSS.f (k : Nat) (a0 : List (List (List Int))) (a1 : List (List (List Int))) : Option (Bool) := if (a0.length : Int) = (a1.length : Int) then (laws_eqByteSSS.l8 k a0 a1 0) else (some false)
def laws_eqByteSSS.c : FnD := { f := 27, ps := [.c (.sl (.sl (.sl (.int .u8)))), .c (.sl (.sl (.sl (.int .u8))))], vc := .c (.bool), bs := [], R := Bool, fn := fun k x => laws_eqByteSSS.f k x.1 x.2.1, out := fun y => (y, ()), inn := fun d => d.1, inv := fun _ => rfl }
theorem laws_eqByteSSS.ok : laws_eqByteSSS.c.OK Tryz.prog :=
  FnD.of laws_eqByteSSS.c mix tok (fn := Tryz.f27) Tryz.func27 (by kernel_rfl) (fun _ _ => by kernel_rfl) (by kernel_rfl) (by kernel_rfl) [laws_eqByteSS.c] ⟨laws_eqByteSS.ok, trivial⟩
    [{ lbl := 8, live := [(0, none), (1, none), (5, none)], vs := [.c (.sl false (.sl (.sl (.int .u8)))), .c (.sl false (.sl (.sl (.int .u8)))), .c (.int .i64)], bs := [], f := fun k x y => laws_eqByteSSS.l8 k x.1 x.2.1 x.2.2.1 }] (fun _ => none) 5000 ⟨⟨fun _ _ => rfl, fun k x y => by kernel_rfl⟩, trivial⟩ (fun k x => by kernel_rfl)

/-! ### loop.example/g00076/laws.FnExactImagesOk: function 4 -/
def laws_FnExactImagesOk.f (k : Nat) (a0 : S31) (a1 : List (List (List Int))) : Option (Bool) := (laws_szTables.f k a0 1048576).bind fun t1 => (if t1 < 0 then (some true) else ((laws_szByteSSS.f k a1 t1).bind fun t2 => (if t2 < 0 then (some true) else ((laws_toTables.f k a0).bind fun t3 => ((laws_toByteSSS.f k a1).bind fun t4 => ((spec_ImagesOk.f k t3 t4).bind fun t5 => ((laws_toTables.f k a0).bind fun t6 => ((laws_toByteSSS.f k a1).bind fun t7 => ((impl_ImagesOk.f k t6 t7).bind fun t8 => (if (t8 == t5) = true then ((laws_toTables.f k a0).bind fun t9 => ((laws_eqTables.f k t6 t9).bind fun t10 => (if t10 = true then ((laws_toByteSSS.f k a1).bind fun t11 => ((laws_eqByteSSS.f k t7 t11).bind fun t12 => (if t12 = true then (some true) else (some false)))) else (some false)))) else (some false)))))))))))
def laws_FnExactImagesOk.c : FnD := { f := 4, ps := [.agg T31, .c (.sl (.sl (.sl (.int .u8))))], vc := .c (.bool), bs := [], R := Bool, fn := fun k x => laws_FnExactImagesOk.f k x.1 x.2.1, out := fun y => (y, ()), inn := fun d => d.1, inv := fun _ => rfl }
theorem laws_FnExactImagesOk.ok : laws_FnExactImagesOk.c.OK Tryz.prog :=
  FnD.of laws_FnExactImagesOk.c mix tok (fn := Tryz.f4) Tryz.func4 (by kernel_rfl) (fun _ _ => by kernel_rfl) (by kernel_rfl) (by kernel_rfl) [laws_szTables.c, laws_szByteSSS.c, laws_toTables.c, laws_toByteSSS.c, spec_ImagesOk.c, impl_ImagesOk.c, laws_eqTables.c, laws_eqByteSSS.c] ⟨laws_szTables.ok, ⟨laws_szByteSSS.ok, ⟨laws_toTables.ok, ⟨laws_toByteSSS.ok, ⟨spec_ImagesOk.ok, ⟨impl_ImagesOk.ok, ⟨laws_eqTables.ok, ⟨laws_eqByteSSS.ok, trivial⟩⟩⟩⟩⟩⟩⟩⟩
    [] (fun _ => none) 5000 trivial (fun k x => by kernel_rfl)

end Go.Proofs.YtgagpmiooeoodaaGreat.PAll
