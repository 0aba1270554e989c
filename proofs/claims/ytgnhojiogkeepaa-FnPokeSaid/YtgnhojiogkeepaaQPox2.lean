/- Go functions as Lean functions, each with its contract. -/
import Derived.Test.YtgnhojiogkeepaaQPox1
set_option linter.unusedVariables false
set_option maxRecDepth 100000
namespace Go.Proofs.Ytgnhojiogkeepaa.PPo
open Go Go.Proofs Go.RowKit Go.Proofs.Ytgnhojiogkeepaa.V
noncomputable section
/-! ### loop.example/g00076/spec.GuestOk: function 9 -/
def spec_GuestOk.l8 : Nat → (List S40) → Int → S29 → Option (Bool)
  | 0, _, _, _ => none
  | k + 1, x0, x5, y0 => if x5 < (x0.length : Int) then (if 0 ≤ x5 then (if x5 < (y0.f2.length : Int) then (if 0 ≤ x5 then (if x5 < (x0.length : Int) then (if ((rd_ListInt y0.f2 x5).length : Int) = (rd_T40 x0 x5).f1 then (spec_GuestOk.l8 k x0 (wrap64 (x5 + 1)) y0) else (some false)) else none) else none) else none) else none) else (some true)
def spec_GuestOk.f (k : Nat) (a0 : List S40) (a1 : S29) : Option (Bool) := (spec_WindowsOk.f k a0).bind fun t1 => (if t1 = true then (if (lenZ a1.f0) = 16 then (if 0 < (a1.f0.length : Int) then (if (a1.f0.getD 0 0) = 0 then (if (a1.f2.length : Int) = (a0.length : Int) then (spec_GuestOk.l8 k a0 0 a1) else (some false)) else (some false)) else none) else (some false)) else (some false))
def spec_GuestOk.c : FnD := { f := 9, sh := false, ps := [.c (.sl T40), .agg T29], pb := [], vc := .c (.bool), bs := [], R := Bool, fn := fun k x y => spec_GuestOk.f k x.1 x.2.1, out := fun y => (y, ()), inn := fun d => d.1, inv := fun _ => rfl }
theorem spec_GuestOk.ok : spec_GuestOk.c.OK Try.prog :=
  FnD.of spec_GuestOk.c mix tok (fn := Try.f9) Try.func9 (by kernel_rfl) (fun _ _ => by kernel_rfl) (by kernel_rfl) (by kernel_rfl) [spec_WindowsOk.c] ⟨spec_WindowsOk.ok, trivial⟩
    [{ lbl := 8, live := [(0, none), (3, none), (5, none)], ms := [], vs := [.c (.sl false T40), .c (.ptr 0 0), .c (.int .i64)], bs := [.cells 29 [.sl false (.int .u32), .int .u32, .sl false (.sl (.int .u8))]], f := fun k x y => spec_GuestOk.l8 k x.1 x.2.2.1 (y.1.1, y.1.2.1, y.1.2.2.1) }] { c := fun _ => none, cc := [], ms := [], tn := [], sh := false, fm := [] } rfl 5000 ⟨⟨fun _ _ => rfl, fun k x y => by kernel_rfl⟩, trivial⟩ (fun k x y => by kernel_rfl)

/-! ### loop.example/g00076/spec.l07Fault: function 40 -/
def spec_l07Fault.f (k : Nat) (a0 : List S40) (a1 : Int) (a2 : Int) (a3 : Int) : Option (Int) := if a2 = 0 then none else (if (Int.tmod (wrap64 (a1)) a2) = 0 then ((spec_l07At.f k a0 (wrap64 (a1))).bind fun t1 => (if t1 < 0 then (some 2) else (if 0 ≤ t1 then (if t1 < (a0.length : Int) then (if a3 = 0 then none else (if (Int.tmod (wrap64 (Int.tdiv ((rd_T40 a0 t1).f2) a3)) 2) = 0 then (some 3) else (some 0))) else none) else none))) else (some 1))
def spec_l07Fault.c : FnD := { f := 40, sh := false, ps := [.c (.sl T40), .c (.int .u32), .c (.int .i64), .c (.int .i64)], pb := [], vc := .c (.int .i64), bs := [], R := Int, fn := fun k x y => spec_l07Fault.f k x.1 x.2.1 x.2.2.1 x.2.2.2.1, out := fun y => (y, ()), inn := fun d => d.1, inv := fun _ => rfl }
theorem spec_l07Fault.ok : spec_l07Fault.c.OK Try.prog :=
  FnD.of spec_l07Fault.c mix tok (fn := Try.f40) Try.func40 (by kernel_rfl) (fun _ _ => by kernel_rfl) (by kernel_rfl) (by kernel_rfl) [spec_l07At.c] ⟨spec_l07At.ok, trivial⟩
    [] { c := fun _ => none, cc := [], ms := [], tn := [], sh := false, fm := [] } rfl 5000 trivial (fun k x y => by kernel_rfl)

/-! ### loop.example/g00076/spec.FaultAt: function 10 -/
def spec_FaultAt.f (k : Nat) (a0 : List S40) (a1 : Int) (a2 : Int) (a3 : Int) : Option (Int) := (spec_WindowsOk.f k a0).bind fun t1 => (if t1 = true then (if a2 = 1 then (if a3 = 1 then ((spec_l07Fault.f k a0 a1 a2 a3).bind fun t2 => (some t2)) else (if a3 = 2 then ((spec_l07Fault.f k a0 a1 a2 a3).bind fun t3 => (some t3)) else (if a3 = 4 then ((spec_l07Fault.f k a0 a1 a2 a3).bind fun t4 => (some t4)) else (some 9)))) else (if a2 = 4 then (if a3 = 1 then ((spec_l07Fault.f k a0 a1 a2 a3).bind fun t5 => (some t5)) else (if a3 = 2 then ((spec_l07Fault.f k a0 a1 a2 a3).bind fun t6 => (some t6)) else (if a3 = 4 then ((spec_l07Fault.f k a0 a1 a2 a3).bind fun t7 => (some t7)) else (some 9)))) else (some 9))) else (some 9))
def spec_FaultAt.c : FnD := { f := 10, sh := false, ps := [.c (.sl T40), .c (.int .u32), .c (.int .i64), .c (.int .i64)], pb := [], vc := .c (.int .i64), bs := [], R := Int, fn := fun k x y => spec_FaultAt.f k x.1 x.2.1 x.2.2.1 x.2.2.2.1, out := fun y => (y, ()), inn := fun d => d.1, inv := fun _ => rfl }
theorem spec_FaultAt.ok : spec_FaultAt.c.OK Try.prog :=
  FnD.of spec_FaultAt.c mix tok (fn := Try.f10) Try.func10 (by kernel_rfl) (fun _ _ => by kernel_rfl) (by kernel_rfl) (by kernel_rfl) [spec_WindowsOk.c, spec_l07Fault.c] ⟨spec_WindowsOk.ok, ⟨spec_l07Fault.ok, trivial⟩⟩
    [] { c := fun _ => none, cc := [], ms := [], tn := [], sh := false, fm := [] } rfl 5000 trivial (fun k x y => by kernel_rfl)

/-! ### loop.example/g00076/impl.within: function 56 -/
def impl_within.f (a0 : Int) (a1 : Int) (a2 : Int) : Option (Bool) := if a0 ≥ a1 then (some (decide (a0 ≤ a2))) else (some false)
def impl_within.c : FnD := { f := 56, sh := false, ps := [.c (.int .i64), .c (.int .i64), .c (.int .i64)], pb := [], vc := .c (.bool), bs := [], R := Bool, fn := fun _ x y => impl_within.f x.1 x.2.1 x.2.2.1, out := fun y => (y, ()), inn := fun d => d.1, inv := fun _ => rfl }
theorem impl_within.ok : impl_within.c.OK Try.prog :=
  FnD.of impl_within.c mix tok (fn := Try.f56) Try.func56 (by kernel_rfl) (fun _ _ => by kernel_rfl) (by kernel_rfl) (by kernel_rfl) [] trivial
    [] { c := fun _ => none, cc := [], ms := [], tn := [], sh := false, fm := [] } rfl 5000 trivial (fun k x y => by kernel_rfl)

/-! ### loop.example/g00076/impl.isWindow: function 76 -/
def impl_isWindow.f (a0 : S40) : Option (Bool) := (impl_within.f a0.f1 4 2048).bind fun t1 => (if t1 = true then (if (Int.tmod a0.f1 4) = 0 then ((impl_within.f a0.f0 0 (wrap64 (2048 - a0.f1))).bind fun t2 => (if t2 = true then (if (Int.tmod a0.f0 4) = 0 then ((impl_within.f a0.f2 1 7).bind fun t3 => (some t3)) else (some false)) else (some false))) else (some false)) else (some false))
def impl_isWindow.c : FnD := { f := 76, sh := false, ps := [.agg T40], pb := [], vc := .c (.bool), bs := [], R := Bool, fn := fun _ x y => impl_isWindow.f x.1, out := fun y => (y, ()), inn := fun d => d.1, inv := fun _ => rfl }
theorem impl_isWindow.ok : impl_isWindow.c.OK Try.prog :=
  FnD.of impl_isWindow.c mix tok (fn := Try.f76) Try.func76 (by kernel_rfl) (fun _ _ => by kernel_rfl) (by kernel_rfl) (by kernel_rfl) [impl_within.c] ⟨impl_within.ok, trivial⟩
    [] { c := fun _ => none, cc := [], ms := [], tn := [], sh := false, fm := [] } rfl 5000 trivial (fun k x y => by kernel_rfl)

/-! ### loop.example/g00076/impl.areApart: function 79 -/
def impl_areApart.f (a0 : S40) (a1 : S40) : Option (Bool) := if (wrap64 (a0.f0 + a0.f1)) ≤ a1.f0 then (some true) else (some (decide ((wrap64 (a1.f0 + a1.f1)) ≤ a0.f0)))
def impl_areApart.c : FnD := { f := 79, sh := false, ps := [.agg T40, .agg T40], pb := [], vc := .c (.bool), bs := [], R := Bool, fn := fun _ x y => impl_areApart.f x.1 x.2.1, out := fun y => (y, ()), inn := fun d => d.1, inv := fun _ => rfl }
theorem impl_areApart.ok : impl_areApart.c.OK Try.prog :=
  FnD.of impl_areApart.c mix tok (fn := Try.f79) Try.func79 (by kernel_rfl) (fun _ _ => by kernel_rfl) (by kernel_rfl) (by kernel_rfl) [] trivial
    [] { c := fun _ => none, cc := [], ms := [], tn := [], sh := false, fm := [] } rfl 5000 trivial (fun k x y => by kernel_rfl)

/-! ### loop.example/g00076/impl.areWindows$1: function 78 -/
def impl_areWindows_1.f (a0 : S40) (c1 : S40) : Option (Bool) := (impl_areApart.f a0 c1).bind fun t1 => (some (!t1))
def impl_areWindows_1.c : FnD := { f := 78, sh := false, ps := [.agg T40, .cap T40], pb := [], vc := .c (.bool), bs := [], R := Bool, fn := fun _ x y => impl_areWindows_1.f x.1 x.2.1, out := fun y => (y, ()), inn := fun d => d.1, inv := fun _ => rfl }
theorem impl_areWindows_1.ok : impl_areWindows_1.c.OK Try.prog :=
  FnD.of impl_areWindows_1.c mix tok (fn := Try.f78) Try.func78 (by kernel_rfl) (fun _ _ => by kernel_rfl) (by kernel_rfl) (by kernel_rfl) [impl_areApart.c] ⟨impl_areApart.ok, trivial⟩
    [] { c := fun _ => none, cc := [], ms := [], tn := [], sh := false, fm := [] } rfl 5000 trivial (fun k x y => by kernel_rfl)

/-! ### slices.IndexFunc[[]loop.example/g00076/impl.Window,loop.example/g00076/impl.Window]: function 118 -/
def slices_IndexFunc_118_78.l4 : Nat → (List S40) → S40 → Int → Int → Option (Int)
  | 0, _, _, _, _ => none
  | k + 1, x0, x1_0, x7, x8 => if x8 < x7 then (if 0 ≤ x8 then (if x8 < (x0.length : Int) then ((impl_areWindows_1.f (rd_T40 x0 x8) x1_0).bind fun t1 => (if t1 = true then (some x8) else (slices_IndexFunc_118_78.l4 k x0 x1_0 x7 (wrap64 (x8 + 1))))) else none) else none) else (some (-1))
def slices_IndexFunc_118_78.f (k : Nat) (a0 : List S40) (p1_0 : S40) : Option (Int) := slices_IndexFunc_118_78.l4 k a0 p1_0 (a0.length : Int) 0
def slices_IndexFunc_118_78.c : FnD := { f := 118, sh := false, ps := [.c (.sl T40), .fn 78 [T40]], pb := [], vc := .c (.int .i64), bs := [], R := Int, fn := fun k x y => slices_IndexFunc_118_78.f k x.1 x.2.1.1, out := fun y => (y, ()), inn := fun d => d.1, inv := fun _ => rfl }
theorem slices_IndexFunc_118_78.ok : slices_IndexFunc_118_78.c.OK Try.prog :=
  FnD.of slices_IndexFunc_118_78.c mix tok (fn := Try.f118) Try.func118 (by kernel_rfl) (fun _ _ => by kernel_rfl) (by kernel_rfl) (by kernel_rfl) [impl_areWindows_1.c] ⟨impl_areWindows_1.ok, trivial⟩
    [{ lbl := 4, live := [(0, none), (1, none), (7, none), (8, none)], ms := [], vs := [.c (.sl false T40), .c (.fn 78 [T40]), .c (.int .i64), .c (.int .i64)], bs := [], f := fun k x y => slices_IndexFunc_118_78.l4 k x.1 x.2.1.1 x.2.2.1 x.2.2.2.1 }] { c := fun _ => none, cc := [], ms := [], tn := [], sh := false, fm := [] } rfl 5000 ⟨⟨fun _ _ => rfl, fun k x y => by kernel_rfl⟩, trivial⟩ (fun k x y => by kernel_rfl)

/-! ### slices.ContainsFunc[[]loop.example/g00076/impl.Window,loop.example/g00076/impl.Window]: function 77 -/
def slices_ContainsFunc_77_78.f (k : Nat) (a0 : List S40) (p1_0 : S40) : Option (Bool) := (slices_IndexFunc_118_78.f k a0 p1_0).bind fun t1 => (some (decide (t1 ≥ 0)))
def slices_ContainsFunc_77_78.c : FnD := { f := 77, sh := false, ps := [.c (.sl T40), .fn 78 [T40]], pb := [], vc := .c (.bool), bs := [], R := Bool, fn := fun k x y => slices_ContainsFunc_77_78.f k x.1 x.2.1.1, out := fun y => (y, ()), inn := fun d => d.1, inv := fun _ => rfl }
theorem slices_ContainsFunc_77_78.ok : slices_ContainsFunc_77_78.c.OK Try.prog :=
  FnD.of slices_ContainsFunc_77_78.c mix tok (fn := Try.f77) Try.func77 (by kernel_rfl) (fun _ _ => by kernel_rfl) (by kernel_rfl) (by kernel_rfl) [slices_IndexFunc_118_78.c] ⟨slices_IndexFunc_118_78.ok, trivial⟩
    [] { c := fun _ => none, cc := [], ms := [], tn := [], sh := false, fm := [] } rfl 5000 trivial (fun k x y => by kernel_rfl)

/-! ### loop.example/g00076/impl.areWindows: function 44 -/
def impl_areWindows.l8 : Nat → (List S40) → (List S40) → Int → Int → Option (Bool)
  | 0, _, _, _, _ => none
  | k + 1, x0, x8, x9, x10 => if x10 < x9 then (if 0 ≤ x10 then (if x10 < (x8.length : Int) then ((impl_isWindow.f (rd_T40 x8 x10)).bind fun t1 => (if t1 = true then (if (0 : Int) ≤ x10 then (if x10 ≤ (x0.length : Int) then ((slices_ContainsFunc_77_78.f k ((x0.take x10.toNat).drop (0 : Int).toNat) (rd_T40 x8 x10)).bind fun t2 => (if t2 = true then (some false) else (impl_areWindows.l8 k x0 x8 x9 (wrap64 (x10 + 1))))) else none) else none) else (some false))) else none) else none) else (some true)
def impl_areWindows.f (k : Nat) (a0 : List S40) : Option (Bool) := if (a0.length : Int) > 4 then (some false) else (impl_areWindows.l8 k a0 a0 (a0.length : Int) 0)
def impl_areWindows.c : FnD := { f := 44, sh := false, ps := [.c (.sl T40)], pb := [], vc := .c (.bool), bs := [], R := Bool, fn := fun k x y => impl_areWindows.f k x.1, out := fun y => (y, ()), inn := fun d => d.1, inv := fun _ => rfl }
theorem impl_areWindows.ok : impl_areWindows.c.OK Try.prog :=
  FnD.of impl_areWindows.c mix tok (fn := Try.f44) Try.func44 (by kernel_rfl) (fun _ _ => by kernel_rfl) (by kernel_rfl) (by kernel_rfl) [impl_isWindow.c, slices_ContainsFunc_77_78.c] ⟨impl_isWindow.ok, ⟨slices_ContainsFunc_77_78.ok, trivial⟩⟩
    [{ lbl := 8, live := [(0, none), (8, none), (9, none), (10, none)], ms := [], vs := [.c (.sl false T40), .c (.sl false T40), .c (.int .i64), .c (.int .i64)], bs := [], f := fun k x y => impl_areWindows.l8 k x.1 x.2.1 x.2.2.1 x.2.2.2.1 }] { c := fun _ => none, cc := [], ms := [], tn := [], sh := false, fm := [] } rfl 5000 ⟨⟨fun _ _ => rfl, fun k x y => by kernel_rfl⟩, trivial⟩ (fun k x y => by kernel_rfl)

/-! ### loop.example/g00076/impl.isGuest: function 41 -/
def impl_isGuest.l8 : Nat → (List S40) → Int → Int → S29 → Option (Bool)
  | 0, _, _, _, _ => none
  | k + 1, x31, x32, x33, y0 => if x33 < x32 then (if 0 ≤ x33 then (if x33 < (x31.length : Int) then (if 0 ≤ x33 then (if x33 < (y0.f2.length : Int) then (if ((rd_ListInt y0.f2 x33).length : Int) = (rd_T40 x31 x33).f1 then (impl_isGuest.l8 k x31 x32 (wrap64 (x33 + 1)) y0) else (some false)) else none) else none) else none) else none) else (some true)
def impl_isGuest.f (k : Nat) (a0 : List S40) (a1 : S29) : Option (Bool) := (impl_areWindows.f k a0).bind fun t1 => (if t1 = true then (if (lenZ a1.f0) = 16 then (if 0 < (a1.f0.length : Int) then (if (a1.f0.getD 0 0) = 0 then (if (a1.f2.length : Int) = (a0.length : Int) then (impl_isGuest.l8 k a0 (a0.length : Int) 0 a1) else (some false)) else (some false)) else none) else (some false)) else (some false))
def impl_isGuest.c : FnD := { f := 41, sh := false, ps := [.c (.sl T40), .agg T29], pb := [], vc := .c (.bool), bs := [], R := Bool, fn := fun k x y => impl_isGuest.f k x.1 x.2.1, out := fun y => (y, ()), inn := fun d => d.1, inv := fun _ => rfl }
theorem impl_isGuest.ok : impl_isGuest.c.OK Try.prog :=
  FnD.of impl_isGuest.c mix tok (fn := Try.f41) Try.func41 (by kernel_rfl) (fun _ _ => by kernel_rfl) (by kernel_rfl) (by kernel_rfl) [impl_areWindows.c] ⟨impl_areWindows.ok, trivial⟩
    [{ lbl := 8, live := [(3, none), (31, none), (32, none), (33, none)], ms := [], vs := [.c (.ptr 0 0), .c (.sl false T40), .c (.int .i64), .c (.int .i64)], bs := [.cells 29 [.sl false (.int .u32), .int .u32, .sl false (.sl (.int .u8))]], f := fun k x y => impl_isGuest.l8 k x.2.1 x.2.2.1 x.2.2.2.1 (y.1.1, y.1.2.1, y.1.2.2.1) }] { c := fun _ => none, cc := [], ms := [], tn := [], sh := false, fm := [] } rfl 5000 ⟨⟨fun _ _ => rfl, fun k x y => by kernel_rfl⟩, trivial⟩ (fun k x y => by kernel_rfl)

/-! ### slices.Clone[[]uint32,uint32]: function 72 -/
def slices_Clone_72.f (a0 : List Int) : Option ((List Int)) := if a0.length = 0 then (sameO (some ([] : List Int)) (if ([] : List Int).length + a0.length < 35184372088832 then (some (([] : List Int) ++ a0)) else none)) else (if ([] : List Int).length + a0.length < 35184372088832 then (some (([] : List Int) ++ a0)) else none)
def slices_Clone_72.c : FnD := { f := 72, sh := false, ps := [.c (.sl (.int .u32))], pb := [], vc := .c (.own 0), bs := [.arr (.int .u32) .un], R := (List Int), fn := fun _ x y => slices_Clone_72.f x.1, out := fun y => ((), (y, ())), inn := fun d => d.2.1, inv := fun _ => rfl }
theorem slices_Clone_72.ok : slices_Clone_72.c.OK Try.prog :=
  FnD.of slices_Clone_72.c mix tok (fn := Try.f72) Try.func72 (by kernel_rfl) (fun _ _ => by kernel_rfl) (by kernel_rfl) (by kernel_rfl) [] trivial
    [] { c := fun n => bif Nat.beq n 0 then some (.row (.int .u32)) else  none, cc := [], ms := [], tn := [], sh := false, fm := [] } rfl 5000 trivial (fun k x y => by kernel_rfl)

/-! ### slices.Clone[[]byte,byte]: function 73 -/
def slices_Clone_73.f (a0 : List Int) : Option ((List Int)) := if a0.length = 0 then (sameO (some ([] : List Int)) (if ([] : List Int).length + a0.length < 140737488355328 then (some (([] : List Int) ++ a0)) else none)) else (if ([] : List Int).length + a0.length < 140737488355328 then (some (([] : List Int) ++ a0)) else none)
def slices_Clone_73.c : FnD := { f := 73, sh := false, ps := [.c (.sl (.int .u8))], pb := [], vc := .c (.own 0), bs := [.arr (.int .u8) .un], R := (List Int), fn := fun _ x y => slices_Clone_73.f x.1, out := fun y => ((), (y, ())), inn := fun d => d.2.1, inv := fun _ => rfl }
theorem slices_Clone_73.ok : slices_Clone_73.c.OK Try.prog :=
  FnD.of slices_Clone_73.c mix tok (fn := Try.f73) Try.func73 (by kernel_rfl) (fun _ _ => by kernel_rfl) (by kernel_rfl) (by kernel_rfl) [] trivial
    [] { c := fun n => bif Nat.beq n 0 then some (.row (.int .u8)) else  none, cc := [], ms := [], tn := [], sh := false, fm := [] } rfl 5000 trivial (fun k x y => by kernel_rfl)

/-! ### loop.example/g00076/impl.cloneGuest: function 42 -/
mutual
def impl_cloneGuest.l5 : Nat → S29 → S29 → S29 → Option (S29)
  | 0, _, _, _ => none
  | k + 1, y0, y1, y2 => impl_cloneGuest.l6 k y0.f2 (y0.f2.length : Int) 0 (⟨([] : List Int), y1.f1, ([] : List (List Int))⟩ : S29) (⟨y2.f0, y2.f1, ([] : List (List Int))⟩ : S29)
def impl_cloneGuest.l6 : Nat → (List (List Int)) → Int → Int → S29 → S29 → Option (S29)
  | 0, _, _, _, _, _ => none
  | k + 1, x13, x14, x15, y0, y1 => if x15 < x14 then (if 0 ≤ x15 then (if x15 < (x13.length : Int) then ((slices_Clone_73.f (rd_ListInt x13 x15)).bind fun t2 => (if y1.f2.length + ([t2] : List (List Int)).length < 5864062014805 then (impl_cloneGuest.l6 k x13 x14 (wrap64 (x15 + 1)) (⟨([] : List Int), y0.f1, ([] : List (List Int))⟩ : S29) (⟨y1.f0, y1.f1, (y1.f2 ++ ([t2] : List (List Int)))⟩ : S29)) else none)) else none) else none) else (some y1)
end
def impl_cloneGuest.f (k : Nat) (a0 : S29) : Option (S29) := sameO ((slices_Clone_72.f a0.f0).bind fun t1 => (impl_cloneGuest.l5 k a0 (⟨([] : List Int), 0, ([] : List (List Int))⟩ : S29) (⟨t1, a0.f1, ([] : List (List Int))⟩ : S29))) ((slices_Clone_72.f a0.f0).bind fun t1 => (impl_cloneGuest.l5 k a0 (⟨([] : List Int), 0, ([] : List (List Int))⟩ : S29) (⟨t1, a0.f1, ([] : List (List Int))⟩ : S29)))
def impl_cloneGuest.c : FnD := { f := 42, sh := false, ps := [.agg T29], pb := [], vc := .agg [.own 0, .int .u32, .own 1], bs := [.arr (.int .u32) .un, .arr (.sl (.int .u8)) .un], R := S29, fn := fun k x y => impl_cloneGuest.f k x.1, out := fun y => (((), y.2.1, (), ()), (y.1, y.2.2, ())), inn := fun d => (d.2.1, d.1.2.1, d.2.2.1), inv := fun _ => rfl }
theorem impl_cloneGuest.ok : impl_cloneGuest.c.OK Try.prog :=
  FnD.of impl_cloneGuest.c mix tok (fn := Try.f42) Try.func42 (by kernel_rfl) (fun _ _ => by kernel_rfl) (by kernel_rfl) (by kernel_rfl) [slices_Clone_72.c, slices_Clone_73.c] ⟨slices_Clone_72.ok, ⟨slices_Clone_73.ok, trivial⟩⟩
    [{ lbl := 5, live := [(1, none), (2, none), (3, none)], ms := [], vs := [.c (.ptr 0 0), .c (.ptr 1 0), .c (.ptr 2 0)], bs := [.cells 29 [.sl false (.int .u32), .int .u32, .sl false (.sl (.int .u8))], .cells 29 [.nil, .int .u32, .nil], .cells 29 [.own 3, .int .u32, .nil], .arr (.int .u32) .un], f := fun k x y => impl_cloneGuest.l5 k (y.1.1, y.1.2.1, y.1.2.2.1) ([], y.2.1.2.1, []) (y.2.2.2.1, y.2.2.1.2.1, []) },
      { lbl := 6, live := [(2, none), (3, none), (13, none), (14, none), (15, none)], ms := [], cc := [(1, 2, .row (.sl (.int .u8)))], vs := [.c (.ptr 0 0), .c (.ptr 1 0), .c (.sl false (.sl (.int .u8))), .c (.int .i64), .c (.int .i64)], bs := [.cells 29 [.nil, .int .u32, .nil], .cells 29 [.own 2, .int .u32, .own 3], .arr (.int .u32) .un, .arr (.sl (.int .u8)) .un], f := fun k x y => impl_cloneGuest.l6 k x.2.2.1 x.2.2.2.1 x.2.2.2.2.1 ([], y.1.2.1, []) (y.2.2.1, y.2.1.2.1, y.2.2.2.1) }] { c := fun _ => none, cc := [], ms := [], tn := [], sh := false, fm := [] } rfl 5000 ⟨⟨fun _ _ => rfl, fun k x y => by kernel_rfl⟩, ⟨⟨fun _ _ => rfl, fun k x y => by kernel_rfl⟩, trivial⟩⟩ (fun k x y => by kernel_rfl)

/-! ### loop.example/g00076/impl.windowAt$1: function 119 -/
def impl_windowAt_1.f (a0 : S40) (c1 : Int) : Option (Bool) := if a0.f0 ≤ c1 then (some (decide (c1 < (wrap64 (a0.f0 + a0.f1))))) else (some false)
def impl_windowAt_1.c : FnD := { f := 119, sh := false, ps := [.agg T40, .cap (.int .i64)], pb := [], vc := .c (.bool), bs := [], R := Bool, fn := fun _ x y => impl_windowAt_1.f x.1 x.2.1, out := fun y => (y, ()), inn := fun d => d.1, inv := fun _ => rfl }
theorem impl_windowAt_1.ok : impl_windowAt_1.c.OK Try.prog :=
  FnD.of impl_windowAt_1.c mix tok (fn := Try.f119) Try.func119 (by kernel_rfl) (fun _ _ => by kernel_rfl) (by kernel_rfl) (by kernel_rfl) [] trivial
    [] { c := fun _ => none, cc := [], ms := [], tn := [], sh := false, fm := [] } rfl 5000 trivial (fun k x y => by kernel_rfl)

/-! ### slices.IndexFunc[[]loop.example/g00076/impl.Window,loop.example/g00076/impl.Window]: function 118 -/
def slices_IndexFunc_118_119.l4 : Nat → (List S40) → Int → Int → Int → Option (Int)
  | 0, _, _, _, _ => none
  | k + 1, x0, x1_0, x7, x8 => if x8 < x7 then (if 0 ≤ x8 then (if x8 < (x0.length : Int) then ((impl_windowAt_1.f (rd_T40 x0 x8) x1_0).bind fun t1 => (if t1 = true then (some x8) else (slices_IndexFunc_118_119.l4 k x0 x1_0 x7 (wrap64 (x8 + 1))))) else none) else none) else (some (-1))
def slices_IndexFunc_118_119.f (k : Nat) (a0 : List S40) (p1_0 : Int) : Option (Int) := slices_IndexFunc_118_119.l4 k a0 p1_0 (a0.length : Int) 0
def slices_IndexFunc_118_119.c : FnD := { f := 118, sh := false, ps := [.c (.sl T40), .fn 119 [(.int .i64)]], pb := [], vc := .c (.int .i64), bs := [], R := Int, fn := fun k x y => slices_IndexFunc_118_119.f k x.1 x.2.1.1, out := fun y => (y, ()), inn := fun d => d.1, inv := fun _ => rfl }
theorem slices_IndexFunc_118_119.ok : slices_IndexFunc_118_119.c.OK Try.prog :=
  FnD.of slices_IndexFunc_118_119.c mix tok (fn := Try.f118) Try.func118 (by kernel_rfl) (fun _ _ => by kernel_rfl) (by kernel_rfl) (by kernel_rfl) [impl_windowAt_1.c] ⟨impl_windowAt_1.ok, trivial⟩
    [{ lbl := 4, live := [(0, none), (1, none), (7, none), (8, none)], ms := [], vs := [.c (.sl false T40), .c (.fn 119 [(.int .i64)]), .c (.int .i64), .c (.int .i64)], bs := [], f := fun k x y => slices_IndexFunc_118_119.l4 k x.1 x.2.1.1 x.2.2.1 x.2.2.2.1 }] { c := fun _ => none, cc := [], ms := [], tn := [], sh := false, fm := [] } rfl 5000 ⟨⟨fun _ _ => rfl, fun k x y => by kernel_rfl⟩, trivial⟩ (fun k x y => by kernel_rfl)

/-! ### loop.example/g00076/impl.windowAt: function 74 -/
def impl_windowAt.f (k : Nat) (a0 : List S40) (a1 : Int) : Option (Int) := (slices_IndexFunc_118_119.f k a0 a1).bind fun t1 => (some t1)
def impl_windowAt.c : FnD := { f := 74, sh := false, ps := [.c (.sl T40), .c (.int .i64)], pb := [], vc := .c (.int .i64), bs := [], R := Int, fn := fun k x y => impl_windowAt.f k x.1 x.2.1, out := fun y => (y, ()), inn := fun d => d.1, inv := fun _ => rfl }
theorem impl_windowAt.ok : impl_windowAt.c.OK Try.prog :=
  FnD.of impl_windowAt.c mix tok (fn := Try.f74) Try.func74 (by kernel_rfl) (fun _ _ => by kernel_rfl) (by kernel_rfl) (by kernel_rfl) [slices_IndexFunc_118_119.c] ⟨slices_IndexFunc_118_119.ok, trivial⟩
    [] { c := fun _ => none, cc := [], ms := [], tn := [], sh := false, fm := [] } rfl 5000 trivial (fun k x y => by kernel_rfl)

/-! ### loop.example/g00076/impl.faultAt: function 45 -/
def impl_faultAt.f (k : Nat) (a0 : List S40) (a1 : Int) (a2 : Int) (a3 : Int) : Option (Int) := if a2 = 1 then (if a3 = 1 then (if a2 = 0 then none else (if (Int.tmod (wrap64 (a1)) a2) = 0 then ((impl_windowAt.f k a0 (wrap64 (a1))).bind fun t1 => (if t1 < 0 then (some 2) else (if 0 ≤ t1 then (if t1 < (a0.length : Int) then (if (bitAnd .i64 ((rd_T40 a0 t1).f2) a3) = 0 then (some 3) else (some 0)) else none) else none))) else (some 1))) else (if a3 = 2 then (if a2 = 0 then none else (if (Int.tmod (wrap64 (a1)) a2) = 0 then ((impl_windowAt.f k a0 (wrap64 (a1))).bind fun t2 => (if t2 < 0 then (some 2) else (if 0 ≤ t2 then (if t2 < (a0.length : Int) then (if (bitAnd .i64 ((rd_T40 a0 t2).f2) a3) = 0 then (some 3) else (some 0)) else none) else none))) else (some 1))) else (if a3 = 4 then (if a2 = 0 then none else (if (Int.tmod (wrap64 (a1)) a2) = 0 then ((impl_windowAt.f k a0 (wrap64 (a1))).bind fun t3 => (if t3 < 0 then (some 2) else (if 0 ≤ t3 then (if t3 < (a0.length : Int) then (if (bitAnd .i64 ((rd_T40 a0 t3).f2) a3) = 0 then (some 3) else (some 0)) else none) else none))) else (some 1))) else (some 9)))) else (if a2 = 4 then (if a3 = 1 then (if a2 = 0 then none else (if (Int.tmod (wrap64 (a1)) a2) = 0 then ((impl_windowAt.f k a0 (wrap64 (a1))).bind fun t4 => (if t4 < 0 then (some 2) else (if 0 ≤ t4 then (if t4 < (a0.length : Int) then (if (bitAnd .i64 ((rd_T40 a0 t4).f2) a3) = 0 then (some 3) else (some 0)) else none) else none))) else (some 1))) else (if a3 = 2 then (if a2 = 0 then none else (if (Int.tmod (wrap64 (a1)) a2) = 0 then ((impl_windowAt.f k a0 (wrap64 (a1))).bind fun t5 => (if t5 < 0 then (some 2) else (if 0 ≤ t5 then (if t5 < (a0.length : Int) then (if (bitAnd .i64 ((rd_T40 a0 t5).f2) a3) = 0 then (some 3) else (some 0)) else none) else none))) else (some 1))) else (if a3 = 4 then (if a2 = 0 then none else (if (Int.tmod (wrap64 (a1)) a2) = 0 then ((impl_windowAt.f k a0 (wrap64 (a1))).bind fun t6 => (if t6 < 0 then (some 2) else (if 0 ≤ t6 then (if t6 < (a0.length : Int) then (if (bitAnd .i64 ((rd_T40 a0 t6).f2) a3) = 0 then (some 3) else (some 0)) else none) else none))) else (some 1))) else (some 9)))) else (some 9))
def impl_faultAt.c : FnD := { f := 45, sh := false, ps := [.c (.sl T40), .c (.int .u32), .c (.int .i64), .c (.int .i64)], pb := [], vc := .c (.int .i64), bs := [], R := Int, fn := fun k x y => impl_faultAt.f k x.1 x.2.1 x.2.2.1 x.2.2.2.1, out := fun y => (y, ()), inn := fun d => d.1, inv := fun _ => rfl }
theorem impl_faultAt.ok : impl_faultAt.c.OK Try.prog :=
  FnD.of impl_faultAt.c mix tok (fn := Try.f45) Try.func45 (by kernel_rfl) (fun _ _ => by kernel_rfl) (by kernel_rfl) (by kernel_rfl) [impl_windowAt.c] ⟨impl_windowAt.ok, trivial⟩
    [] { c := fun _ => none, cc := [], ms := [], tn := [], sh := false, fm := [] } rfl 5000 trivial (fun k x y => by kernel_rfl)

/-! ### loop.example/g00076/impl.BytesOf: function 75 -/
def impl_BytesOf.f (a0 : Int) : Option ((List Int)) := some ([(IntKind.wrap .u8 (a0)), (IntKind.wrap .u8 ((shr .u32 a0 8))), (IntKind.wrap .u8 ((shr .u32 a0 16))), (IntKind.wrap .u8 ((shr .u32 a0 24)))] : List Int)
def impl_BytesOf.c : FnD := { f := 75, sh := false, ps := [.c (.int .u32)], pb := [], vc := .c (.own 0), bs := [.arr (.int .u8) .un], R := (List Int), fn := fun _ x y => impl_BytesOf.f x.1, out := fun y => ((), (y, ())), inn := fun d => d.2.1, inv := fun _ => rfl }
theorem impl_BytesOf.ok : impl_BytesOf.c.OK Try.prog :=
  FnD.of impl_BytesOf.c mix tok (fn := Try.f75) Try.func75 (by kernel_rfl) (fun _ _ => by kernel_rfl) (by kernel_rfl) (by kernel_rfl) [] trivial
    [] { c := fun _ => none, cc := [], ms := [], tn := [], sh := false, fm := [] } rfl 5000 trivial (fun k x y => by kernel_rfl)

/-! ### (*loop.example/g00076/impl.Guest).store: function 43 -/
def impl_Guest__store_o1.f (k : Nat) (a1 : List S40) (a2 : Int) (a3 : Int) (a4 : Int) (y0 : S29) : Option (Int × S29) := (impl_faultAt.f k a1 a2 a3 2).bind fun t1 => (if t1 = 0 then ((impl_windowAt.f k a1 (wrap64 (a2))).bind fun t2 => (if 0 ≤ t2 then (if t2 < (y0.f2.length : Int) then (if 0 ≤ t2 then (if t2 < (a1.length : Int) then (if 0 ≤ (wrap64 ((wrap64 (a2)) - ((rd_T40 a1 t2).f0))) then (if (wrap64 ((wrap64 (a2)) - ((rd_T40 a1 t2).f0))) < ((rd_ListInt y0.f2 t2).length : Int) then ((impl_BytesOf.f a4).bind fun t3 => (if (0 : Int) ≤ a3 then (if a3 ≤ (t3.length : Int) then (if 0 < ((t3.take a3.toNat).drop (0 : Int).toNat).length then (let q4 : List (List Int) := y0.f2.set t2.toNat ((rd_ListInt y0.f2 t2).take (wrap64 ((wrap64 (a2)) - ((rd_T40 a1 t2).f0))).toNat ++ ((t3.take a3.toNat).drop (0 : Int).toNat).take ((rd_ListInt y0.f2 t2).length - (wrap64 ((wrap64 (a2)) - ((rd_T40 a1 t2).f0))).toNat) ++ (rd_ListInt y0.f2 t2).drop ((wrap64 ((wrap64 (a2)) - ((rd_T40 a1 t2).f0))).toNat + (((t3.take a3.toNat).drop (0 : Int).toNat).take ((rd_ListInt y0.f2 t2).length - (wrap64 ((wrap64 (a2)) - ((rd_T40 a1 t2).f0))).toNat)).length)); some (0, (⟨y0.f0, y0.f1, q4⟩ : S29))) else none) else none) else none)) else none) else none) else none) else none) else none) else none)) else (some (t1, y0)))
def impl_Guest__store_o1.c : FnD := { f := 43, sh := false, ps := [.vc (.c (.ptr 0 0)), .c (.sl T40), .c (.int .u32), .c (.int .i64), .c (.int .u32)], pb := [.cells 29 [.own 1, .int .u32, .own 2], .arr (.int .u32) .un, .arr (.sl (.int .u8)) .un], vc := .c (.int .i64), bs := [.cells 29 [.own 1, .int .u32, .own 2], .arr (.int .u32) .un, .arr (.sl (.int .u8)) .un], R := Int × S29, fn := fun k x y => impl_Guest__store_o1.f k x.2.1 x.2.2.1 x.2.2.2.1 x.2.2.2.2.1 (y.2.1, y.1.2.1, y.2.2.1), out := fun y => (y.1, (((), y.2.2.1, (), ()), y.2.1, y.2.2.2, ())), inn := fun d => (d.1, (d.2.2.1, d.2.1.2.1, d.2.2.2.1)), inv := fun _ => rfl }
theorem impl_Guest__store_o1.ok : impl_Guest__store_o1.c.OK Try.prog :=
  FnD.of impl_Guest__store_o1.c mix tok (fn := Try.f43) Try.func43 (by kernel_rfl) (fun _ _ => by kernel_rfl) (by kernel_rfl) (by kernel_rfl) [impl_faultAt.c, impl_windowAt.c, impl_BytesOf.c] ⟨impl_faultAt.ok, ⟨impl_windowAt.ok, ⟨impl_BytesOf.ok, trivial⟩⟩⟩
    [] { c := fun _ => none, cc := [], ms := [], tn := [], sh := false, fm := [] } rfl 5000 trivial (fun k x y => by kernel_rfl)

/-! ### loop.example/g00076/impl.Poke: function 11 -/
def impl_Poke.f (k : Nat) (a0 : List S40) (a1 : S29) (a2 : Int) (a3 : Int) (a4 : Int) : Option (S29 × Int) := (impl_isGuest.f k a0 a1).bind fun t1 => (if t1 = true then ((impl_cloneGuest.f k a1).bind fun t2 => ((impl_Guest__store_o1.f k a0 a2 a3 a4 t2).bind fun t3 => (some (t3.2, t3.1)))) else (some ((⟨([] : List Int), 0, ([] : List (List Int))⟩ : S29), 9)))
def impl_Poke.c : FnD := { f := 11, sh := false, ps := [.c (.sl T40), .agg T29, .c (.int .u32), .c (.int .i64), .c (.int .u32)], pb := [], vc := .tup [(true, [.own 0, .int .u32, .own 1]), (false, [.int .i64])], bs := [.arr (.int .u32) .un, .arr (.sl (.int .u8)) .un], R := S29 × Int, fn := fun k x y => impl_Poke.f k x.1 x.2.1 x.2.2.1 x.2.2.2.1 x.2.2.2.2.1, out := fun y => ((((), y.1.2.1, (), ()), (y.2, ()), ()), (y.1.1, y.1.2.2, ())), inn := fun d => ((d.2.1, d.1.1.2.1, d.2.2.1), d.1.2.1.1), inv := fun _ => rfl }
theorem impl_Poke.ok : impl_Poke.c.OK Try.prog :=
  FnD.of impl_Poke.c mix tok (fn := Try.f11) Try.func11 (by kernel_rfl) (fun _ _ => by kernel_rfl) (by kernel_rfl) (by kernel_rfl) [impl_Guest__store_o1.c, impl_isGuest.c, impl_cloneGuest.c] ⟨impl_Guest__store_o1.ok, ⟨impl_isGuest.ok, ⟨impl_cloneGuest.ok, trivial⟩⟩⟩
    [] { c := fun n => bif Nat.beq n 0 then some (.row (.int .u32)) else bif Nat.beq n 2 then some (.row (.sl (.int .u8))) else  none, cc := [], ms := [], tn := [], sh := false, fm := [] } rfl 5000 trivial (fun k x y => by kernel_rfl)

/-! ### loop.example/g00076/impl.FaultAt: function 12 -/
def impl_FaultAt.f (k : Nat) (a0 : List S40) (a1 : Int) (a2 : Int) (a3 : Int) : Option (Int) := (impl_areWindows.f k a0).bind fun t1 => (if t1 = true then ((impl_faultAt.f k a0 a1 a2 a3).bind fun t2 => (some t2)) else (some 9))
def impl_FaultAt.c : FnD := { f := 12, sh := false, ps := [.c (.sl T40), .c (.int .u32), .c (.int .i64), .c (.int .i64)], pb := [], vc := .c (.int .i64), bs := [], R := Int, fn := fun k x y => impl_FaultAt.f k x.1 x.2.1 x.2.2.1 x.2.2.2.1, out := fun y => (y, ()), inn := fun d => d.1, inv := fun _ => rfl }
theorem impl_FaultAt.ok : impl_FaultAt.c.OK Try.prog :=
  FnD.of impl_FaultAt.c mix tok (fn := Try.f12) Try.func12 (by kernel_rfl) (fun _ _ => by kernel_rfl) (by kernel_rfl) (by kernel_rfl) [impl_areWindows.c, impl_faultAt.c] ⟨impl_areWindows.ok, ⟨impl_faultAt.ok, trivial⟩⟩
    [] { c := fun _ => none, cc := [], ms := [], tn := [], sh := false, fm := [] } rfl 5000 trivial (fun k x y => by kernel_rfl)

/-! ### loop.example/g00076/impl.WordOf: function 80 -/
def impl_WordOf.f (a0 : List Int) : Option (Int × Bool) := if (a0.length : Int) = 4 then (if 0 < (a0.length : Int) then (if 1 < (a0.length : Int) then (if 2 < (a0.length : Int) then (if 3 < (a0.length : Int) then (some ((bitOr .u32 (bitOr .u32 (bitOr .u32 (IntKind.wrap .u32 ((a0.getD 0 0))) (shl .u32 (IntKind.wrap .u32 ((a0.getD 1 0))) 8)) (shl .u32 (IntKind.wrap .u32 ((a0.getD 2 0))) 16)) (shl .u32 (IntKind.wrap .u32 ((a0.getD 3 0))) 24)), true)) else none) else none) else none) else none) else (some (0, false))
def impl_WordOf.c : FnD := { f := 80, sh := false, ps := [.c (.sl (.int .u8))], pb := [], vc := .tup [(false, [.int .u32]), (false, [.bool])], bs := [], R := Int × Bool, fn := fun _ x y => impl_WordOf.f x.1, out := fun y => (((y.1, ()), (y.2, ()), ()), ()), inn := fun d => (d.1.1.1, d.1.2.1.1), inv := fun _ => rfl }
theorem impl_WordOf.ok : impl_WordOf.c.OK Try.prog :=
  FnD.of impl_WordOf.c mix tok (fn := Try.f80) Try.func80 (by kernel_rfl) (fun _ _ => by kernel_rfl) (by kernel_rfl) (by kernel_rfl) [] trivial
    [] { c := fun _ => none, cc := [], ms := [], tn := [], sh := false, fm := [] } rfl 5000 trivial (fun k x y => by kernel_rfl)

/-! ### (*loop.example/g00076/impl.Guest).load: function 46 -/
def impl_Guest__load_o1.f (k : Nat) (a1 : List S40) (a2 : Int) (a3 : Int) (a4 : Int) (y0 : S29) : Option (Int × Int × S29) := (impl_faultAt.f k a1 a2 a3 a4).bind fun t1 => (if t1 = 0 then ((impl_windowAt.f k a1 (wrap64 (a2))).bind fun t2 => (if 0 ≤ t2 then (if t2 < (y0.f2.length : Int) then (if 0 ≤ t2 then (if t2 < (a1.length : Int) then (if 0 ≤ (wrap64 ((wrap64 (a2)) - ((rd_T40 a1 t2).f0))) then (if (wrap64 ((wrap64 (a2)) - ((rd_T40 a1 t2).f0))) ≤ ((rd_ListInt y0.f2 t2).length : Int) then (if ((rd_ListInt y0.f2 t2).length : Int) ≤ ((rd_ListInt y0.f2 t2).length : Int) then (if a3 = 1 then (if 0 < ((((rd_ListInt y0.f2 t2).take ((rd_ListInt y0.f2 t2).length : Int).toNat).drop (wrap64 ((wrap64 (a2)) - ((rd_T40 a1 t2).f0))).toNat).length : Int) then (some ((IntKind.wrap .u32 (((((rd_ListInt y0.f2 t2).take ((rd_ListInt y0.f2 t2).length : Int).toNat).drop (wrap64 ((wrap64 (a2)) - ((rd_T40 a1 t2).f0))).toNat).getD 0 0))), 0, y0)) else none) else (if (0 : Int) ≤ (4 : Int) then (if (4 : Int) ≤ ((((rd_ListInt y0.f2 t2).take ((rd_ListInt y0.f2 t2).length : Int).toNat).drop (wrap64 ((wrap64 (a2)) - ((rd_T40 a1 t2).f0))).toNat).length : Int) then ((impl_WordOf.f (((((rd_ListInt y0.f2 t2).take ((rd_ListInt y0.f2 t2).length : Int).toNat).drop (wrap64 ((wrap64 (a2)) - ((rd_T40 a1 t2).f0))).toNat).take (4 : Int).toNat).drop (0 : Int).toNat)).bind fun t3 => (some (t3.1, 0, y0))) else none) else none)) else none) else none) else none) else none) else none) else none) else none)) else (some (0, t1, y0)))
def impl_Guest__load_o1.c : FnD := { f := 46, sh := true, ps := [.vc (.c (.ptr 0 0)), .c (.sl T40), .c (.int .u32), .c (.int .i64), .c (.int .i64)], pb := [.cells 29 [.sl false (.int .u32), .int .u32, .sl false (.sl (.int .u8))]], vc := .tup [(false, [.int .u32]), (false, [.int .i64])], bs := [.cells 29 [.sl false (.int .u32), .int .u32, .sl false (.sl (.int .u8))]], R := Int × Int × S29, fn := fun k x y => impl_Guest__load_o1.f k x.2.1 x.2.2.1 x.2.2.2.1 x.2.2.2.2.1 (y.1.1, y.1.2.1, y.1.2.2.1), out := fun y => (((y.1, ()), (y.2.1, ()), ()), ((y.2.2.1, y.2.2.2.1, y.2.2.2.2, ()), ())), inn := fun d => (d.1.1.1, d.1.2.1.1, (d.2.1.1, d.2.1.2.1, d.2.1.2.2.1)), inv := fun _ => rfl }
theorem impl_Guest__load_o1.ok : impl_Guest__load_o1.c.OK Try.prog :=
  FnD.of impl_Guest__load_o1.c mix tok (fn := Try.f46) Try.func46 (by kernel_rfl) (fun _ _ => by kernel_rfl) (by kernel_rfl) (by kernel_rfl) [impl_faultAt.c, impl_windowAt.c, impl_WordOf.c] ⟨impl_faultAt.ok, ⟨impl_windowAt.ok, ⟨impl_WordOf.ok, trivial⟩⟩⟩
    [] { c := fun _ => none, cc := [], ms := [], tn := [], sh := true, fm := [] } rfl 5000 trivial (fun k x y => by kernel_rfl)

/-! ### loop.example/g00076/impl.Peek: function 14 -/
def impl_Peek.f (k : Nat) (a0 : List S40) (a1 : S29) (a2 : Int) (a3 : Int) : Option (Int × Int) := (impl_isGuest.f k a0 a1).bind fun t1 => (if t1 = true then ((impl_Guest__load_o1.f k a0 a2 a3 1 a1).bind fun t2 => (some (t2.1, t2.2.1))) else (some (0, 9)))
def impl_Peek.c : FnD := { f := 14, sh := false, ps := [.c (.sl T40), .agg T29, .c (.int .u32), .c (.int .i64)], pb := [], vc := .tup [(false, [.int .u32]), (false, [.int .i64])], bs := [], R := Int × Int, fn := fun k x y => impl_Peek.f k x.1 x.2.1 x.2.2.1 x.2.2.2.1, out := fun y => (((y.1, ()), (y.2, ()), ()), ()), inn := fun d => (d.1.1.1, d.1.2.1.1), inv := fun _ => rfl }
theorem impl_Peek.ok : impl_Peek.c.OK Try.prog :=
  FnD.of impl_Peek.c mix tok (fn := Try.f14) Try.func14 (by kernel_rfl) (fun _ _ => by kernel_rfl) (by kernel_rfl) (by kernel_rfl) [impl_Guest__load_o1.c, impl_isGuest.c] ⟨impl_Guest__load_o1.ok, ⟨impl_isGuest.ok, trivial⟩⟩
    [] { c := fun _ => none, cc := [], ms := [], tn := [], sh := false, fm := [] } rfl 5000 trivial (fun k x y => by kernel_rfl)

/-! ### loop.example/g00076/laws.sameBytes: function 13 -/
def laws_sameBytes.l8 : Nat → (List (List Int)) → (List (List Int)) → Int → Option (Bool)
  | 0, _, _, _ => none
  | k + 1, x0, x1, x5 => if x5 < (x0.length : Int) then (if 0 ≤ x5 then (if x5 < (x0.length : Int) then (if 0 ≤ x5 then (if x5 < (x1.length : Int) then (if (strOf (rd_ListInt x0 x5)) = (strOf (rd_ListInt x1 x5)) then (laws_sameBytes.l8 k x0 x1 (wrap64 (x5 + 1))) else (some false)) else none) else none) else none) else none) else (some true)
def laws_sameBytes.f (k : Nat) (a0 : List (List Int)) (a1 : List (List Int)) : Option (Bool) := if (a0.length : Int) = (a1.length : Int) then (laws_sameBytes.l8 k a0 a1 0) else (some false)
def laws_sameBytes.c : FnD := { f := 13, sh := false, ps := [.c (.sl (.sl (.int .u8))), .c (.sl (.sl (.int .u8)))], pb := [], vc := .c (.bool), bs := [], R := Bool, fn := fun k x y => laws_sameBytes.f k x.1 x.2.1, out := fun y => (y, ()), inn := fun d => d.1, inv := fun _ => rfl }
theorem laws_sameBytes.ok : laws_sameBytes.c.OK Try.prog :=
  FnD.of laws_sameBytes.c mix tok (fn := Try.f13) Try.func13 (by kernel_rfl) (fun _ _ => by kernel_rfl) (by kernel_rfl) (by kernel_rfl) [] trivial
    [{ lbl := 8, live := [(0, none), (1, none), (5, none)], ms := [], vs := [.c (.sl false (.sl (.int .u8))), .c (.sl false (.sl (.int .u8))), .c (.int .i64)], bs := [], f := fun k x y => laws_sameBytes.l8 k x.1 x.2.1 x.2.2.1 }] { c := fun _ => none, cc := [], ms := [], tn := [], sh := false, fm := [] } rfl 5000 ⟨⟨fun _ _ => rfl, fun k x y => by kernel_rfl⟩, trivial⟩ (fun k x y => by kernel_rfl)

/-! ### loop.example/g00076/laws.FnPoke: function 3 -/
mutual
def laws_FnPoke.l44 : Nat → Int → Int → Int → (List S40) → S29 → S29 → Option (Bool)
  | 0, _, _, _, _, _, _ => none
  | k + 1, x5, x6, x14, h0, y1, y2 => if x14 < (lenZ h0) then (if 0 ≤ x14 then (if x14 < (y2.f2.length : Int) then (if 0 ≤ x14 then (if x14 < (y1.f2.length : Int) then (if ((rd_ListInt y2.f2 x14).length : Int) = ((rd_ListInt y1.f2 x14).length : Int) then (laws_FnPoke.l54 k x5 x6 x14 0 h0 y1 y2) else (some false)) else none) else none) else none) else none) else (some true)
def laws_FnPoke.l19 : Nat → Option (Bool)
  | 0 => none
  | k + 1 => some false
def laws_FnPoke.l54 : Nat → Int → Int → Int → Int → (List S40) → S29 → S29 → Option (Bool)
  | 0, _, _, _, _, _, _, _ => none
  | k + 1, x5, x6, x14, x15, h0, y1, y2 => if 0 ≤ x14 then (if x14 < (y1.f2.length : Int) then (if x15 < ((rd_ListInt y1.f2 x14).length : Int) then (if 0 ≤ x14 then (if x14 < (h0.length : Int) then (if (wrap64 (((rd_T40 h0 x14).f0) + x15)) < (wrap64 (x5)) then (if 0 ≤ x14 then (if x14 < (y2.f2.length : Int) then (if 0 ≤ x15 then (if x15 < ((rd_ListInt y2.f2 x14).length : Int) then (if 0 ≤ x14 then (if x14 < (y1.f2.length : Int) then (if 0 ≤ x15 then (if x15 < ((rd_ListInt y1.f2 x14).length : Int) then (if (rd (rd_ListInt y2.f2 x14) x15) = (rd (rd_ListInt y1.f2 x14) x15) then (laws_FnPoke.l54 k x5 x6 x14 (wrap64 (x15 + 1)) h0 y1 y2) else (some false)) else none) else none) else none) else none) else none) else none) else none) else none) else (if (wrap64 (((rd_T40 h0 x14).f0) + x15)) ≥ (wrap64 ((wrap64 (x5)) + x6)) then (if 0 ≤ x14 then (if x14 < (y2.f2.length : Int) then (if 0 ≤ x15 then (if x15 < ((rd_ListInt y2.f2 x14).length : Int) then (if 0 ≤ x14 then (if x14 < (y1.f2.length : Int) then (if 0 ≤ x15 then (if x15 < ((rd_ListInt y1.f2 x14).length : Int) then (if (rd (rd_ListInt y2.f2 x14) x15) = (rd (rd_ListInt y1.f2 x14) x15) then (laws_FnPoke.l54 k x5 x6 x14 (wrap64 (x15 + 1)) h0 y1 y2) else (some false)) else none) else none) else none) else none) else none) else none) else none) else none) else (laws_FnPoke.l54 k x5 x6 x14 (wrap64 (x15 + 1)) h0 y1 y2))) else none) else none) else (laws_FnPoke.l44 k x5 x6 (wrap64 (x14 + 1)) h0 y1 y2)) else none) else none
end
def laws_FnPoke.f (k : Nat) (a0 : List Int) : Option (Bool) := (laws_big.f a0).bind fun t1 => (if t1 = true then (some true) else ((spec_DrawPoke.f k a0).bind fun t2 => ((spec_GuestOk.f k t2.1 t2.2.1).bind fun t3 => (if t3 = true then (if t2.2.2.2.1 = 1 then ((spec_FaultAt.f k t2.1 t2.2.2.1 t2.2.2.2.1 2).bind fun t4 => ((impl_Poke.f k t2.1 t2.2.1 t2.2.2.1 t2.2.2.2.1 t2.2.2.2.2).bind fun t5 => (if t5.2 = t4 then ((impl_FaultAt.f k t2.1 t2.2.2.1 t2.2.2.2.1 2).bind fun t6 => (if t6 = t4 then (if t4 = 0 then ((impl_Peek.f k t2.1 t5.1 t2.2.2.1 t2.2.2.2.1).bind fun t7 => ((spec_FaultAt.f k t2.1 t2.2.2.1 t2.2.2.2.1 1).bind fun t8 => (if t8 = 0 then (if t2.2.2.2.1 = 1 then (if t7.2 = 0 then (if t7.1 = (Int.tmod t2.2.2.2.2 256) then (if (t5.1.f2.length : Int) = (t2.2.1.f2.length : Int) then (laws_FnPoke.l44 k t2.2.2.1 t2.2.2.2.1 0 t2.1 t2.2.1 t5.1) else (some false)) else (some false)) else (some false)) else (if t7.2 = 0 then (if t7.1 = t2.2.2.2.2 then (if (t5.1.f2.length : Int) = (t2.2.1.f2.length : Int) then (laws_FnPoke.l44 k t2.2.2.1 t2.2.2.2.1 0 t2.1 t2.2.1 t5.1) else (some false)) else (some false)) else (some false))) else (if (t5.1.f2.length : Int) = (t2.2.1.f2.length : Int) then (laws_FnPoke.l44 k t2.2.2.1 t2.2.2.2.1 0 t2.1 t2.2.1 t5.1) else (some false))))) else ((laws_sameBytes.f k t5.1.f2 t2.2.1.f2).bind fun t9 => (if t9 = true then (some (decide (t5.1.f1 = t2.2.1.f1))) else (some false)))) else (laws_FnPoke.l19 k))) else (laws_FnPoke.l19 k)))) else (if t2.2.2.2.1 = 4 then ((spec_FaultAt.f k t2.1 t2.2.2.1 t2.2.2.2.1 2).bind fun t10 => ((impl_Poke.f k t2.1 t2.2.1 t2.2.2.1 t2.2.2.2.1 t2.2.2.2.2).bind fun t11 => (if t11.2 = t10 then ((impl_FaultAt.f k t2.1 t2.2.2.1 t2.2.2.2.1 2).bind fun t12 => (if t12 = t10 then (if t10 = 0 then ((impl_Peek.f k t2.1 t11.1 t2.2.2.1 t2.2.2.2.1).bind fun t13 => ((spec_FaultAt.f k t2.1 t2.2.2.1 t2.2.2.2.1 1).bind fun t14 => (if t14 = 0 then (if t2.2.2.2.1 = 1 then (if t13.2 = 0 then (if t13.1 = (Int.tmod t2.2.2.2.2 256) then (if (t11.1.f2.length : Int) = (t2.2.1.f2.length : Int) then (laws_FnPoke.l44 k t2.2.2.1 t2.2.2.2.1 0 t2.1 t2.2.1 t11.1) else (some false)) else (some false)) else (some false)) else (if t13.2 = 0 then (if t13.1 = t2.2.2.2.2 then (if (t11.1.f2.length : Int) = (t2.2.1.f2.length : Int) then (laws_FnPoke.l44 k t2.2.2.1 t2.2.2.2.1 0 t2.1 t2.2.1 t11.1) else (some false)) else (some false)) else (some false))) else (if (t11.1.f2.length : Int) = (t2.2.1.f2.length : Int) then (laws_FnPoke.l44 k t2.2.2.1 t2.2.2.2.1 0 t2.1 t2.2.1 t11.1) else (some false))))) else ((laws_sameBytes.f k t11.1.f2 t2.2.1.f2).bind fun t15 => (if t15 = true then (some (decide (t11.1.f1 = t2.2.1.f1))) else (some false)))) else (laws_FnPoke.l19 k))) else (laws_FnPoke.l19 k)))) else (some true))) else (some true)))))
def laws_FnPoke.c : FnD := { f := 3, sh := false, ps := [.c (.sl (.int .u8))], pb := [], vc := .c (.bool), bs := [], R := Bool, fn := fun k x y => laws_FnPoke.f k x.1, out := fun y => (y, ()), inn := fun d => d.1, inv := fun _ => rfl }
theorem laws_FnPoke.ok : laws_FnPoke.c.OK Try.prog :=
  FnD.of laws_FnPoke.c mix tok (fn := Try.f3) Try.func3 (by kernel_rfl) (fun _ _ => by kernel_rfl) (by kernel_rfl) (by kernel_rfl) [laws_big.c, spec_DrawPoke.c, spec_GuestOk.c, spec_FaultAt.c, impl_Poke.c, impl_FaultAt.c, impl_Peek.c, laws_sameBytes.c] ⟨laws_big.ok, ⟨spec_DrawPoke.ok, ⟨spec_GuestOk.ok, ⟨spec_FaultAt.ok, ⟨impl_Poke.ok, ⟨impl_FaultAt.ok, ⟨impl_Peek.ok, ⟨laws_sameBytes.ok, trivial⟩⟩⟩⟩⟩⟩⟩⟩
    [{ lbl := 44, live := [(3, none), (4, none), (5, none), (6, none), (9, none), (14, none)], ms := [], vs := [.c (.own 0), .c (.ptr 1 0), .c (.int .u32), .c (.int .i64), .c (.ptr 2 0), .c (.int .i64)], bs := [.arr T40 .un, .cells 29 [.sl true (.int .u32), .int .u32, .sl true (.sl (.int .u8))], .cells 29 [.own 3, .int .u32, .own 4], .arr (.int .u32) .un, .arr (.sl (.int .u8)) .un], f := fun k x y => laws_FnPoke.l44 k x.2.2.1 x.2.2.2.1 x.2.2.2.2.2.1 y.1 (y.2.1.1, y.2.1.2.1, y.2.1.2.2.1) (y.2.2.2.1, y.2.2.1.2.1, y.2.2.2.2.1) },
      { lbl := 19, live := [], ms := [], vs := [], bs := [], f := fun k x y => laws_FnPoke.l19 k },
      { lbl := 54, live := [(3, none), (4, none), (5, none), (6, none), (9, none), (14, none), (15, none)], ms := [], vs := [.c (.own 0), .c (.ptr 1 0), .c (.int .u32), .c (.int .i64), .c (.ptr 2 0), .c (.int .i64), .c (.int .i64)], bs := [.arr T40 .un, .cells 29 [.sl true (.int .u32), .int .u32, .sl true (.sl (.int .u8))], .cells 29 [.own 3, .int .u32, .own 4], .arr (.int .u32) .un, .arr (.sl (.int .u8)) .un], f := fun k x y => laws_FnPoke.l54 k x.2.2.1 x.2.2.2.1 x.2.2.2.2.2.1 x.2.2.2.2.2.2.1 y.1 (y.2.1.1, y.2.1.2.1, y.2.1.2.2.1) (y.2.2.2.1, y.2.2.1.2.1, y.2.2.2.2.1) }] { c := fun _ => none, cc := [], ms := [], tn := [], sh := false, fm := [] } rfl 5000 ⟨⟨fun _ _ => rfl, fun k x y => by kernel_rfl⟩, ⟨⟨fun _ _ => rfl, fun k x y => by kernel_rfl⟩, ⟨⟨fun _ _ => rfl, fun k x y => by kernel_rfl⟩, trivial⟩⟩⟩ (fun k x y => by kernel_rfl)

end
end Go.Proofs.Ytgnhojiogkeepaa.PPo
