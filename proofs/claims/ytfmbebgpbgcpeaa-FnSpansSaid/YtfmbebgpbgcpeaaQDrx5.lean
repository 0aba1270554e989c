/- Go functions as Lean functions, each with its contract. -/
import Derived.Test.YtfmbebgpbgcpeaaQDrx4
set_option linter.unusedVariables false
set_option maxRecDepth 100000
namespace Go.Proofs.Ytfmbebgpbgcpeaa.PDr
open Go Go.Proofs Go.RowKit Go.Proofs.Ytfmbebgpbgcpeaa.V
noncomputable section
/-! ### loop.example/g00076/spec.l13Chans: function 139 -/
mutual
def spec_l13Chans.l8 : Nat → Int → S33 → Option (Bool)
  | 0, _, _ => none
  | k + 1, x3, y0 => if x3 < (y0.f8.length : Int) then (if 0 ≤ x3 then (if x3 < (y0.f8.length : Int) then ((spec_l01In.f (rd y0.f8 x3) 0 (wrap64 ((y0.f7.length : Int) - 1))).bind fun t1 => (if t1 = true then (spec_l13Chans.l8 k (wrap64 (x3 + 1)) y0) else (some false))) else none) else none) else (spec_l13Chans.l18 k 0 y0)
def spec_l13Chans.l18 : Nat → Int → S33 → Option (Bool)
  | 0, _, _ => none
  | k + 1, x4, y0 => if x4 < (y0.f9.length : Int) then (if 0 ≤ x4 then (if x4 < (y0.f9.length : Int) then ((spec_ChanOk.f (rd_T39 y0.f9 x4)).bind fun t2 => (if t2 = true then (if 0 ≤ x4 then (if x4 < (y0.f9.length : Int) then (if (rd_T39 y0.f9 x4).f1 ≥ (y0.f7.length : Int) then (some false) else (if 0 ≤ x4 then (if x4 < (y0.f9.length : Int) then (if (rd_T39 y0.f9 x4).f2 ≥ (y0.f7.length : Int) then (some false) else (spec_l13Chans.l18 k (wrap64 (x4 + 1)) y0)) else none) else none)) else none) else none) else (some false))) else none) else none) else ((spec_WorstPad.f k y0.f3 y0.f1 y0.f9).bind fun t3 => (some (decide (y0.f4 ≥ t3))))
end
def spec_l13Chans.f (k : Nat) (a0 : S33) : Option (Bool) := if (a0.f8.length : Int) > 8 then (some false) else (if (a0.f9.length : Int) > 8 then (some false) else (spec_l13Chans.l8 k 0 a0))
def spec_l13Chans.c : FnD := { f := 139, sh := false, ps := [.agg T33], pb := [], vc := .c (.bool), bs := [], R := Bool, fn := fun k x y => spec_l13Chans.f k x.1, out := fun y => (y, ()), inn := fun d => d.1, inv := fun _ => rfl }
theorem spec_l13Chans.ok : spec_l13Chans.c.OK Try.prog :=
  FnD.of spec_l13Chans.c mix tok (fn := Try.f139) Try.func139 (by kernel_rfl) (fun _ _ => by kernel_rfl) (by kernel_rfl) (by kernel_rfl) [spec_l01In.c, spec_ChanOk.c, spec_WorstPad.c] ⟨spec_l01In.ok, ⟨spec_ChanOk.ok, ⟨spec_WorstPad.ok, trivial⟩⟩⟩
    [{ lbl := 8, live := [(1, none), (3, none)], ms := [], vs := [.c (.ptr 0 0), .c (.int .i64)], bs := [.cells 33 [.int .i64, .int .i64, .int .i64, .int .i64, .int .i64, .int .i64, .int .i64, .int .i64, .int .i64, .int .i64, .int .i64, .int .i64, .int .i64, .int .i64, .int .i64, .sl false T101, .sl false (.int .i64), .sl false T39, .sl false T61]], f := fun k x y => spec_l13Chans.l8 k x.2.1 (y.1.1, (y.1.2.1, y.1.2.2.1, y.1.2.2.2.1), y.1.2.2.2.2.1, (y.1.2.2.2.2.2.1, y.1.2.2.2.2.2.2.1, y.1.2.2.2.2.2.2.2.1, y.1.2.2.2.2.2.2.2.2.1, y.1.2.2.2.2.2.2.2.2.2.1, y.1.2.2.2.2.2.2.2.2.2.2.1, y.1.2.2.2.2.2.2.2.2.2.2.2.1), y.1.2.2.2.2.2.2.2.2.2.2.2.2.1, y.1.2.2.2.2.2.2.2.2.2.2.2.2.2.1, y.1.2.2.2.2.2.2.2.2.2.2.2.2.2.2.1, y.1.2.2.2.2.2.2.2.2.2.2.2.2.2.2.2.1, y.1.2.2.2.2.2.2.2.2.2.2.2.2.2.2.2.2.1, y.1.2.2.2.2.2.2.2.2.2.2.2.2.2.2.2.2.2.1, y.1.2.2.2.2.2.2.2.2.2.2.2.2.2.2.2.2.2.2.1) },
      { lbl := 18, live := [(1, none), (4, none)], ms := [], vs := [.c (.ptr 0 0), .c (.int .i64)], bs := [.cells 33 [.int .i64, .int .i64, .int .i64, .int .i64, .int .i64, .int .i64, .int .i64, .int .i64, .int .i64, .int .i64, .int .i64, .int .i64, .int .i64, .int .i64, .int .i64, .sl false T101, .sl false (.int .i64), .sl false T39, .sl false T61]], f := fun k x y => spec_l13Chans.l18 k x.2.1 (y.1.1, (y.1.2.1, y.1.2.2.1, y.1.2.2.2.1), y.1.2.2.2.2.1, (y.1.2.2.2.2.2.1, y.1.2.2.2.2.2.2.1, y.1.2.2.2.2.2.2.2.1, y.1.2.2.2.2.2.2.2.2.1, y.1.2.2.2.2.2.2.2.2.2.1, y.1.2.2.2.2.2.2.2.2.2.2.1, y.1.2.2.2.2.2.2.2.2.2.2.2.1), y.1.2.2.2.2.2.2.2.2.2.2.2.2.1, y.1.2.2.2.2.2.2.2.2.2.2.2.2.2.1, y.1.2.2.2.2.2.2.2.2.2.2.2.2.2.2.1, y.1.2.2.2.2.2.2.2.2.2.2.2.2.2.2.2.1, y.1.2.2.2.2.2.2.2.2.2.2.2.2.2.2.2.2.1, y.1.2.2.2.2.2.2.2.2.2.2.2.2.2.2.2.2.2.1, y.1.2.2.2.2.2.2.2.2.2.2.2.2.2.2.2.2.2.2.1) }] { c := fun _ => none, cc := [], ms := [], sh := false, fm := [] } rfl 5000 ⟨⟨fun _ _ => rfl, fun k x y => by kernel_rfl⟩, ⟨⟨fun _ _ => rfl, fun k x y => by kernel_rfl⟩, trivial⟩⟩ (fun k x y => by kernel_rfl)

/-! ### loop.example/g00076/spec.l13Slots: function 140 -/
def spec_l13Slots.l10 : Nat → Int → Int → S33 → Option (Bool)
  | 0, _, _, _ => none
  | k + 1, x3, x4, y0 => if x4 < (y0.f10.length : Int) then (if 0 ≤ x4 then (if x4 < (y0.f10.length : Int) then ((spec_l01In.f ((rd_T61 y0.f10 x4).f0) 0 (wrap64 ((y0.f7.length : Int) - 1))).bind fun t2 => (if t2 = true then ((spec_l01In.f ((rd_T61 y0.f10 x4).f1) x3 5000).bind fun t3 => (if t3 = true then ((spec_l01In.f ((rd_T61 y0.f10 x4).f2) (wrap64 ((wrap64 (y0.f4 + y0.f5)) + 1)) 5000).bind fun t4 => (if t4 = true then (if (wrap64 (((rd_T61 y0.f10 x4).f1) + ((rd_T61 y0.f10 x4).f2))) > y0.f6 then (some false) else (spec_l13Slots.l10 k (wrap64 (((rd_T61 y0.f10 x4).f1) + ((rd_T61 y0.f10 x4).f2))) (wrap64 (x4 + 1)) y0)) else (some false))) else (some false))) else (some false))) else none) else none) else (some true)
def spec_l13Slots.f (k : Nat) (a0 : S33) : Option (Bool) := (spec_l01In.f (a0.f10.length : Int) 1 16).bind fun t1 => (if t1 = true then (spec_l13Slots.l10 k 0 0 a0) else (some false))
def spec_l13Slots.c : FnD := { f := 140, sh := false, ps := [.agg T33], pb := [], vc := .c (.bool), bs := [], R := Bool, fn := fun k x y => spec_l13Slots.f k x.1, out := fun y => (y, ()), inn := fun d => d.1, inv := fun _ => rfl }
theorem spec_l13Slots.ok : spec_l13Slots.c.OK Try.prog :=
  FnD.of spec_l13Slots.c mix tok (fn := Try.f140) Try.func140 (by kernel_rfl) (fun _ _ => by kernel_rfl) (by kernel_rfl) (by kernel_rfl) [spec_l01In.c] ⟨spec_l01In.ok, trivial⟩
    [{ lbl := 10, live := [(1, none), (3, none), (4, none)], ms := [], vs := [.c (.ptr 0 0), .c (.int .i64), .c (.int .i64)], bs := [.cells 33 [.int .i64, .int .i64, .int .i64, .int .i64, .int .i64, .int .i64, .int .i64, .int .i64, .int .i64, .int .i64, .int .i64, .int .i64, .int .i64, .int .i64, .int .i64, .sl false T101, .sl false (.int .i64), .sl false T39, .sl false T61]], f := fun k x y => spec_l13Slots.l10 k x.2.1 x.2.2.1 (y.1.1, (y.1.2.1, y.1.2.2.1, y.1.2.2.2.1), y.1.2.2.2.2.1, (y.1.2.2.2.2.2.1, y.1.2.2.2.2.2.2.1, y.1.2.2.2.2.2.2.2.1, y.1.2.2.2.2.2.2.2.2.1, y.1.2.2.2.2.2.2.2.2.2.1, y.1.2.2.2.2.2.2.2.2.2.2.1, y.1.2.2.2.2.2.2.2.2.2.2.2.1), y.1.2.2.2.2.2.2.2.2.2.2.2.2.1, y.1.2.2.2.2.2.2.2.2.2.2.2.2.2.1, y.1.2.2.2.2.2.2.2.2.2.2.2.2.2.2.1, y.1.2.2.2.2.2.2.2.2.2.2.2.2.2.2.2.1, y.1.2.2.2.2.2.2.2.2.2.2.2.2.2.2.2.2.1, y.1.2.2.2.2.2.2.2.2.2.2.2.2.2.2.2.2.2.1, y.1.2.2.2.2.2.2.2.2.2.2.2.2.2.2.2.2.2.2.1) }] { c := fun _ => none, cc := [], ms := [], sh := false, fm := [] } rfl 5000 ⟨⟨fun _ _ => rfl, fun k x y => by kernel_rfl⟩, trivial⟩ (fun k x y => by kernel_rfl)

/-! ### loop.example/g00076/spec.Sound: function 77 -/
def spec_Sound.f (k : Nat) (a0 : S33) : Option (Bool) := (spec_l13Head.f k a0).bind fun t1 => (if t1 = true then ((spec_l13Parts.f k a0).bind fun t2 => (if t2 = true then ((spec_l13Chans.f k a0).bind fun t3 => (if t3 = true then ((spec_l13Slots.f k a0).bind fun t4 => (some t4)) else (some false))) else (some false))) else (some false))
def spec_Sound.c : FnD := { f := 77, sh := false, ps := [.agg T33], pb := [], vc := .c (.bool), bs := [], R := Bool, fn := fun k x y => spec_Sound.f k x.1, out := fun y => (y, ()), inn := fun d => d.1, inv := fun _ => rfl }
theorem spec_Sound.ok : spec_Sound.c.OK Try.prog :=
  FnD.of spec_Sound.c mix tok (fn := Try.f77) Try.func77 (by kernel_rfl) (fun _ _ => by kernel_rfl) (by kernel_rfl) (by kernel_rfl) [spec_l13Head.c, spec_l13Parts.c, spec_l13Chans.c, spec_l13Slots.c] ⟨spec_l13Head.ok, ⟨spec_l13Parts.ok, ⟨spec_l13Chans.ok, ⟨spec_l13Slots.ok, trivial⟩⟩⟩⟩
    [] { c := fun _ => none, cc := [], ms := [], sh := false, fm := [] } rfl 5000 trivial (fun k x y => by kernel_rfl)

/-! ### loop.example/g00076/spec.ShareOf: function 27 -/
def spec_ShareOf.l10 : Nat → Int → Int → Int → S33 → Option (Int)
  | 0, _, _, _, _ => none
  | k + 1, x1, x5, x6, y0 => if x6 < (y0.f10.length : Int) then (if 0 ≤ x6 then (if x6 < (y0.f10.length : Int) then (if (rd_T61 y0.f10 x6).f0 = x1 then (if 0 ≤ x6 then (if x6 < (y0.f10.length : Int) then (spec_ShareOf.l10 k x1 (wrap64 ((wrap64 ((wrap64 (x5 + ((rd_T61 y0.f10 x6).f2))) - y0.f4)) - y0.f5)) (wrap64 (x6 + 1)) y0) else none) else none) else (spec_ShareOf.l10 k x1 x5 (wrap64 (x6 + 1)) y0)) else none) else none) else (some x5)
def spec_ShareOf.f (k : Nat) (a0 : S33) (a1 : Int) : Option (Int) := (spec_Sound.f k a0).bind fun t1 => (if t1 = true then (spec_ShareOf.l10 k a1 0 0 a0) else (some 0))
def spec_ShareOf.c : FnD := { f := 27, sh := false, ps := [.agg T33, .c (.int .i64)], pb := [], vc := .c (.int .i64), bs := [], R := Int, fn := fun k x y => spec_ShareOf.f k x.1 x.2.1, out := fun y => (y, ()), inn := fun d => d.1, inv := fun _ => rfl }
theorem spec_ShareOf.ok : spec_ShareOf.c.OK Try.prog :=
  FnD.of spec_ShareOf.c mix tok (fn := Try.f27) Try.func27 (by kernel_rfl) (fun _ _ => by kernel_rfl) (by kernel_rfl) (by kernel_rfl) [spec_Sound.c] ⟨spec_Sound.ok, trivial⟩
    [{ lbl := 10, live := [(1, none), (2, none), (5, none), (6, none)], ms := [], vs := [.c (.int .i64), .c (.ptr 0 0), .c (.int .i64), .c (.int .i64)], bs := [.cells 33 [.int .i64, .int .i64, .int .i64, .int .i64, .int .i64, .int .i64, .int .i64, .int .i64, .int .i64, .int .i64, .int .i64, .int .i64, .int .i64, .int .i64, .int .i64, .sl false T101, .sl false (.int .i64), .sl false T39, .sl false T61]], f := fun k x y => spec_ShareOf.l10 k x.1 x.2.2.1 x.2.2.2.1 (y.1.1, (y.1.2.1, y.1.2.2.1, y.1.2.2.2.1), y.1.2.2.2.2.1, (y.1.2.2.2.2.2.1, y.1.2.2.2.2.2.2.1, y.1.2.2.2.2.2.2.2.1, y.1.2.2.2.2.2.2.2.2.1, y.1.2.2.2.2.2.2.2.2.2.1, y.1.2.2.2.2.2.2.2.2.2.2.1, y.1.2.2.2.2.2.2.2.2.2.2.2.1), y.1.2.2.2.2.2.2.2.2.2.2.2.2.1, y.1.2.2.2.2.2.2.2.2.2.2.2.2.2.1, y.1.2.2.2.2.2.2.2.2.2.2.2.2.2.2.1, y.1.2.2.2.2.2.2.2.2.2.2.2.2.2.2.2.1, y.1.2.2.2.2.2.2.2.2.2.2.2.2.2.2.2.2.1, y.1.2.2.2.2.2.2.2.2.2.2.2.2.2.2.2.2.2.1, y.1.2.2.2.2.2.2.2.2.2.2.2.2.2.2.2.2.2.2.1) }] { c := fun _ => none, cc := [], ms := [], sh := false, fm := [] } rfl 5000 ⟨⟨fun _ _ => rfl, fun k x y => by kernel_rfl⟩, trivial⟩ (fun k x y => by kernel_rfl)

/-! ### loop.example/g00076/impl.isCycle: function 78 -/
def impl_isCycle.f (a0 : Int) : Option (Bool) := (impl_within.f a0 0 50000).bind fun t1 => (some t1)
def impl_isCycle.c : FnD := { f := 78, sh := false, ps := [.c (.int .i64)], pb := [], vc := .c (.bool), bs := [], R := Bool, fn := fun _ x y => impl_isCycle.f x.1, out := fun y => (y, ()), inn := fun d => d.1, inv := fun _ => rfl }
theorem impl_isCycle.ok : impl_isCycle.c.OK Try.prog :=
  FnD.of impl_isCycle.c mix tok (fn := Try.f78) Try.func78 (by kernel_rfl) (fun _ _ => by kernel_rfl) (by kernel_rfl) (by kernel_rfl) [impl_within.c] ⟨impl_within.ok, trivial⟩
    [] { c := fun _ => none, cc := [], ms := [], sh := false, fm := [] } rfl 5000 trivial (fun k x y => by kernel_rfl)

/-! ### loop.example/g00076/impl.slotAt$1: function 181 -/
def impl_slotAt_1.f (a0 : S61) (c1 : Int) : Option (Bool) := if a0.f1 ≤ c1 then (some (decide (c1 < (wrap64 (a0.f1 + a0.f2))))) else (some false)
def impl_slotAt_1.c : FnD := { f := 181, sh := false, ps := [.agg T61, .cap (.int .i64)], pb := [], vc := .c (.bool), bs := [], R := Bool, fn := fun _ x y => impl_slotAt_1.f x.1 x.2.1, out := fun y => (y, ()), inn := fun d => d.1, inv := fun _ => rfl }
theorem impl_slotAt_1.ok : impl_slotAt_1.c.OK Try.prog :=
  FnD.of impl_slotAt_1.c mix tok (fn := Try.f181) Try.func181 (by kernel_rfl) (fun _ _ => by kernel_rfl) (by kernel_rfl) (by kernel_rfl) [] trivial
    [] { c := fun _ => none, cc := [], ms := [], sh := false, fm := [] } rfl 5000 trivial (fun k x y => by kernel_rfl)

/-! ### slices.IndexFunc[[]loop.example/g00076/impl.Slot,loop.example/g00076/impl.Slot]: function 180 -/
def slices_IndexFunc_180_181.l4 : Nat → (List S61) → Int → Int → Int → Option (Int)
  | 0, _, _, _, _ => none
  | k + 1, x0, x1_0, x7, x8 => if x8 < x7 then (if 0 ≤ x8 then (if x8 < (x0.length : Int) then ((impl_slotAt_1.f (rd_T61 x0 x8) x1_0).bind fun t1 => (if t1 = true then (some x8) else (slices_IndexFunc_180_181.l4 k x0 x1_0 x7 (wrap64 (x8 + 1))))) else none) else none) else (some (-1))
def slices_IndexFunc_180_181.f (k : Nat) (a0 : List S61) (p1_0 : Int) : Option (Int) := slices_IndexFunc_180_181.l4 k a0 p1_0 (a0.length : Int) 0
def slices_IndexFunc_180_181.c : FnD := { f := 180, sh := false, ps := [.c (.sl T61), .fn 181 [(.int .i64)]], pb := [], vc := .c (.int .i64), bs := [], R := Int, fn := fun k x y => slices_IndexFunc_180_181.f k x.1 x.2.1.1, out := fun y => (y, ()), inn := fun d => d.1, inv := fun _ => rfl }
theorem slices_IndexFunc_180_181.ok : slices_IndexFunc_180_181.c.OK Try.prog :=
  FnD.of slices_IndexFunc_180_181.c mix tok (fn := Try.f180) Try.func180 (by kernel_rfl) (fun _ _ => by kernel_rfl) (by kernel_rfl) (by kernel_rfl) [impl_slotAt_1.c] ⟨impl_slotAt_1.ok, trivial⟩
    [{ lbl := 4, live := [(0, none), (1, none), (7, none), (8, none)], ms := [], vs := [.c (.sl false T61), .c (.fn 181 [(.int .i64)]), .c (.int .i64), .c (.int .i64)], bs := [], f := fun k x y => slices_IndexFunc_180_181.l4 k x.1 x.2.1.1 x.2.2.1 x.2.2.2.1 }] { c := fun _ => none, cc := [], ms := [], sh := false, fm := [] } rfl 5000 ⟨⟨fun _ _ => rfl, fun k x y => by kernel_rfl⟩, trivial⟩ (fun k x y => by kernel_rfl)

/-! ### loop.example/g00076/impl.slotAt: function 149 -/
def impl_slotAt.f (k : Nat) (a0 : S33) (a1 : Int) : Option (Int) := if a0.f6 = 0 then none else ((slices_IndexFunc_180_181.f k a0.f10 (Int.tmod a1 a0.f6)).bind fun t1 => (some t1))
def impl_slotAt.c : FnD := { f := 149, sh := false, ps := [.agg T33, .c (.int .i64)], pb := [], vc := .c (.int .i64), bs := [], R := Int, fn := fun k x y => impl_slotAt.f k x.1 x.2.1, out := fun y => (y, ()), inn := fun d => d.1, inv := fun _ => rfl }
theorem impl_slotAt.ok : impl_slotAt.c.OK Try.prog :=
  FnD.of impl_slotAt.c mix tok (fn := Try.f149) Try.func149 (by kernel_rfl) (fun _ _ => by kernel_rfl) (by kernel_rfl) (by kernel_rfl) [slices_IndexFunc_180_181.c] ⟨slices_IndexFunc_180_181.ok, trivial⟩
    [] { c := fun _ => none, cc := [], ms := [], sh := false, fm := [] } rfl 5000 trivial (fun k x y => by kernel_rfl)

/-! ### loop.example/g00076/impl.phaseAt: function 141 -/
def impl_phaseAt.f (k : Nat) (a0 : S33) (a1 : Int) : Option (Int × Int) := (impl_slotAt.f k a0 a1).bind fun t1 => (if t1 < 0 then (some (0, (-1))) else (if 0 ≤ t1 then (if t1 < (a0.f10.length : Int) then (if a0.f6 = 0 then none else (if (wrap64 ((Int.tmod a1 a0.f6) - ((rd_T61 a0.f10 t1).f1))) < a0.f4 then (some (1, (rd_T61 a0.f10 t1).f0)) else (if (wrap64 ((Int.tmod a1 a0.f6) - ((rd_T61 a0.f10 t1).f1))) ≥ (wrap64 (((rd_T61 a0.f10 t1).f2) - a0.f5)) then (some (3, (rd_T61 a0.f10 t1).f0)) else (some (2, (rd_T61 a0.f10 t1).f0))))) else none) else none))
def impl_phaseAt.c : FnD := { f := 141, sh := false, ps := [.agg T33, .c (.int .i64)], pb := [], vc := .tup [(false, [.int .i64]), (false, [.int .i64])], bs := [], R := Int × Int, fn := fun k x y => impl_phaseAt.f k x.1 x.2.1, out := fun y => (((y.1, ()), (y.2, ()), ()), ()), inn := fun d => (d.1.1.1, d.1.2.1.1), inv := fun _ => rfl }
theorem impl_phaseAt.ok : impl_phaseAt.c.OK Try.prog :=
  FnD.of impl_phaseAt.c mix tok (fn := Try.f141) Try.func141 (by kernel_rfl) (fun _ _ => by kernel_rfl) (by kernel_rfl) (by kernel_rfl) [impl_slotAt.c] ⟨impl_slotAt.ok, trivial⟩
    [] { c := fun _ => none, cc := [], ms := [], sh := false, fm := [] } rfl 5000 trivial (fun k x y => by kernel_rfl)

/-! ### loop.example/g00076/impl.mayBegin: function 79 -/
def impl_mayBegin.f (k : Nat) (a0 : S33) (a1 : Int) : Option (Int) := (impl_phaseAt.f k a0 a1).bind fun t1 => (if t1.1 = 2 then (some t1.2) else (some (-1)))
def impl_mayBegin.c : FnD := { f := 79, sh := false, ps := [.agg T33, .c (.int .i64)], pb := [], vc := .c (.int .i64), bs := [], R := Int, fn := fun k x y => impl_mayBegin.f k x.1 x.2.1, out := fun y => (y, ()), inn := fun d => d.1, inv := fun _ => rfl }
theorem impl_mayBegin.ok : impl_mayBegin.c.OK Try.prog :=
  FnD.of impl_mayBegin.c mix tok (fn := Try.f79) Try.func79 (by kernel_rfl) (fun _ _ => by kernel_rfl) (by kernel_rfl) (by kernel_rfl) [impl_phaseAt.c] ⟨impl_phaseAt.ok, trivial⟩
    [] { c := fun _ => none, cc := [], ms := [], sh := false, fm := [] } rfl 5000 trivial (fun k x y => by kernel_rfl)

/-! ### loop.example/g00076/impl.MayBegin: function 28 -/
def impl_MayBegin.f (k : Nat) (a0 : S33) (a1 : Int) : Option (Int) := (impl_isSound.f k a0).bind fun t1 => (if t1 = true then ((impl_isCycle.f a1).bind fun t2 => (if t2 = true then ((impl_mayBegin.f k a0 a1).bind fun t3 => (some t3)) else (some (-1)))) else (some (-1)))
def impl_MayBegin.c : FnD := { f := 28, sh := false, ps := [.agg T33, .c (.int .i64)], pb := [], vc := .c (.int .i64), bs := [], R := Int, fn := fun k x y => impl_MayBegin.f k x.1 x.2.1, out := fun y => (y, ()), inn := fun d => d.1, inv := fun _ => rfl }
theorem impl_MayBegin.ok : impl_MayBegin.c.OK Try.prog :=
  FnD.of impl_MayBegin.c mix tok (fn := Try.f28) Try.func28 (by kernel_rfl) (fun _ _ => by kernel_rfl) (by kernel_rfl) (by kernel_rfl) [impl_isSound.c, impl_isCycle.c, impl_mayBegin.c] ⟨impl_isSound.ok, ⟨impl_isCycle.ok, ⟨impl_mayBegin.ok, trivial⟩⟩⟩
    [] { c := fun _ => none, cc := [], ms := [], sh := false, fm := [] } rfl 5000 trivial (fun k x y => by kernel_rfl)

/-! ### loop.example/g00076/laws.FnLatency: function 5 -/
mutual
def laws_FnLatency.l22 : Nat → Int → Int → Int → Int → Bool → Int → S33 → Option (Bool)
  | 0, _, _, _, _, _, _, _ => none
  | k + 1, x4, x5, x6, x7, x8, x9, y0 => if x9 < (wrap64 (3 * y0.f6)) then (laws_FnLatency.l30 k x4 x5 x6 x7 x8 x9 false 0 y0) else (some (decide (x5 = x7)))
def laws_FnLatency.l30 : Nat → Int → Int → Int → Int → Bool → Int → Bool → Int → S33 → Option (Bool)
  | 0, _, _, _, _, _, _, _, _, _ => none
  | k + 1, x4, x5, x6, x7, x8, x9, x10, x11, y0 => if x11 < (y0.f10.length : Int) then (if 0 ≤ x11 then (if x11 < (y0.f10.length : Int) then (if y0.f6 = 0 then none else (if (rd_T61 y0.f10 x11).f0 = x4 then (if (wrap64 ((Int.tmod x9 y0.f6) - ((rd_T61 y0.f10 x11).f1))) ≥ y0.f4 then (if (wrap64 ((Int.tmod x9 y0.f6) - ((rd_T61 y0.f10 x11).f1))) < (wrap64 (((rd_T61 y0.f10 x11).f2) - y0.f5)) then (laws_FnLatency.l30 k x4 x5 x6 x7 x8 x9 true (wrap64 (x11 + 1)) y0) else (laws_FnLatency.l30 k x4 x5 x6 x7 x8 x9 x10 (wrap64 (x11 + 1)) y0)) else (laws_FnLatency.l30 k x4 x5 x6 x7 x8 x9 x10 (wrap64 (x11 + 1)) y0)) else (laws_FnLatency.l30 k x4 x5 x6 x7 x8 x9 x10 (wrap64 (x11 + 1)) y0))) else none) else none) else (if (Int.tmod x9 97) = 0 then ((impl_MayBegin.f k y0 x9).bind fun t6 => (if (x10 == (decide (t6 = x4))) = true then (if x10 = true then (if 0 > x7 then (laws_FnLatency.l22 k x4 x5 0 0 true (wrap64 (x9 + 1)) y0) else (laws_FnLatency.l22 k x4 x5 0 x7 true (wrap64 (x9 + 1)) y0)) else (if x8 = true then (if (wrap64 (x6 + 1)) > x7 then (laws_FnLatency.l22 k x4 x5 (wrap64 (x6 + 1)) (wrap64 (x6 + 1)) x8 (wrap64 (x9 + 1)) y0) else (laws_FnLatency.l22 k x4 x5 (wrap64 (x6 + 1)) x7 x8 (wrap64 (x9 + 1)) y0)) else (if x6 > x7 then (laws_FnLatency.l22 k x4 x5 x6 x6 x8 (wrap64 (x9 + 1)) y0) else (laws_FnLatency.l22 k x4 x5 x6 x7 x8 (wrap64 (x9 + 1)) y0)))) else (some false))) else (if x10 = true then (if 0 > x7 then (laws_FnLatency.l22 k x4 x5 0 0 true (wrap64 (x9 + 1)) y0) else (laws_FnLatency.l22 k x4 x5 0 x7 true (wrap64 (x9 + 1)) y0)) else (if x8 = true then (if (wrap64 (x6 + 1)) > x7 then (laws_FnLatency.l22 k x4 x5 (wrap64 (x6 + 1)) (wrap64 (x6 + 1)) x8 (wrap64 (x9 + 1)) y0) else (laws_FnLatency.l22 k x4 x5 (wrap64 (x6 + 1)) x7 x8 (wrap64 (x9 + 1)) y0)) else (if x6 > x7 then (laws_FnLatency.l22 k x4 x5 x6 x6 x8 (wrap64 (x9 + 1)) y0) else (laws_FnLatency.l22 k x4 x5 x6 x7 x8 (wrap64 (x9 + 1)) y0)))))
end
def laws_FnLatency.f (k : Nat) (a0 : List Int) : Option (Bool) := (laws_big.f a0).bind fun t1 => (if t1 = true then (some true) else ((spec_DrawTables.f k a0).bind fun t2 => ((laws_at.f a0 1).bind fun t3 => (if (t2.f7.length : Int) = 0 then none else ((impl_Latency.f k t2 (Int.tmod t3 (t2.f7.length : Int))).bind fun t4 => ((spec_ShareOf.f k t2 (Int.tmod t3 (t2.f7.length : Int))).bind fun t5 => (if t5 = 0 then (some (decide (t4 = (-1)))) else (laws_FnLatency.l22 k (Int.tmod t3 (t2.f7.length : Int)) t4 0 0 false 0 t2))))))))
def laws_FnLatency.c : FnD := { f := 5, sh := false, ps := [.c (.sl (.int .u8))], pb := [], vc := .c (.bool), bs := [], R := Bool, fn := fun k x y => laws_FnLatency.f k x.1, out := fun y => (y, ()), inn := fun d => d.1, inv := fun _ => rfl }
theorem laws_FnLatency.ok : laws_FnLatency.c.OK Try.prog :=
  FnD.of laws_FnLatency.c mix tok (fn := Try.f5) Try.func5 (by kernel_rfl) (fun _ _ => by kernel_rfl) (by kernel_rfl) (by kernel_rfl) [laws_big.c, spec_DrawTables.c, laws_at.c, impl_Latency.c, spec_ShareOf.c, impl_MayBegin.c] ⟨laws_big.ok, ⟨spec_DrawTables.ok, ⟨laws_at.ok, ⟨impl_Latency.ok, ⟨spec_ShareOf.ok, ⟨impl_MayBegin.ok, trivial⟩⟩⟩⟩⟩⟩
    [{ lbl := 22, live := [(3, none), (4, none), (5, none), (6, none), (7, none), (8, none), (9, none)], ms := [], vs := [.c (.ptr 0 0), .c (.int .i64), .c (.int .i64), .c (.int .i64), .c (.int .i64), .c (.bool), .c (.int .i64)], bs := [.cells 33 [.int .i64, .int .i64, .int .i64, .int .i64, .int .i64, .int .i64, .int .i64, .int .i64, .int .i64, .int .i64, .int .i64, .int .i64, .int .i64, .int .i64, .int .i64, .own 1, .own 2, .own 3, .own 4], .arr T101 .un, .arr (.int .i64) .un, .arr T39 .un, .arr T61 .un], f := fun k x y => laws_FnLatency.l22 k x.2.1 x.2.2.1 x.2.2.2.1 x.2.2.2.2.1 x.2.2.2.2.2.1 x.2.2.2.2.2.2.1 (y.1.1, (y.1.2.1, y.1.2.2.1, y.1.2.2.2.1), y.1.2.2.2.2.1, (y.1.2.2.2.2.2.1, y.1.2.2.2.2.2.2.1, y.1.2.2.2.2.2.2.2.1, y.1.2.2.2.2.2.2.2.2.1, y.1.2.2.2.2.2.2.2.2.2.1, y.1.2.2.2.2.2.2.2.2.2.2.1, y.1.2.2.2.2.2.2.2.2.2.2.2.1), y.1.2.2.2.2.2.2.2.2.2.2.2.2.1, y.1.2.2.2.2.2.2.2.2.2.2.2.2.2.1, y.1.2.2.2.2.2.2.2.2.2.2.2.2.2.2.1, y.2.1, y.2.2.1, y.2.2.2.1, y.2.2.2.2.1) },
      { lbl := 30, live := [(3, none), (4, none), (5, none), (6, none), (7, none), (8, none), (9, none), (10, none), (11, none)], ms := [], vs := [.c (.ptr 0 0), .c (.int .i64), .c (.int .i64), .c (.int .i64), .c (.int .i64), .c (.bool), .c (.int .i64), .c (.bool), .c (.int .i64)], bs := [.cells 33 [.int .i64, .int .i64, .int .i64, .int .i64, .int .i64, .int .i64, .int .i64, .int .i64, .int .i64, .int .i64, .int .i64, .int .i64, .int .i64, .int .i64, .int .i64, .own 1, .own 2, .own 3, .own 4], .arr T101 .un, .arr (.int .i64) .un, .arr T39 .un, .arr T61 .un], f := fun k x y => laws_FnLatency.l30 k x.2.1 x.2.2.1 x.2.2.2.1 x.2.2.2.2.1 x.2.2.2.2.2.1 x.2.2.2.2.2.2.1 x.2.2.2.2.2.2.2.1 x.2.2.2.2.2.2.2.2.1 (y.1.1, (y.1.2.1, y.1.2.2.1, y.1.2.2.2.1), y.1.2.2.2.2.1, (y.1.2.2.2.2.2.1, y.1.2.2.2.2.2.2.1, y.1.2.2.2.2.2.2.2.1, y.1.2.2.2.2.2.2.2.2.1, y.1.2.2.2.2.2.2.2.2.2.1, y.1.2.2.2.2.2.2.2.2.2.2.1, y.1.2.2.2.2.2.2.2.2.2.2.2.1), y.1.2.2.2.2.2.2.2.2.2.2.2.2.1, y.1.2.2.2.2.2.2.2.2.2.2.2.2.2.1, y.1.2.2.2.2.2.2.2.2.2.2.2.2.2.2.1, y.2.1, y.2.2.1, y.2.2.2.1, y.2.2.2.2.1) }] { c := fun _ => none, cc := [], ms := [], sh := false, fm := [] } rfl 5000 ⟨⟨fun _ _ => rfl, fun k x y => by kernel_rfl⟩, ⟨⟨fun _ _ => rfl, fun k x y => by kernel_rfl⟩, trivial⟩⟩ (fun k x y => by kernel_rfl)

/-! ### loop.example/g00076/spec.l01Pick: function 142 -/
def spec_l01Pick_o1.f (y0 : S145) (h1 : List ByteArray) : Option (ByteArray × S145 × (List ByteArray)) := (spec_l01Below_o1.f (h1.length : Int) y0).bind fun t1 => (if 0 ≤ t1.1 then (if t1.1 < (h1.length : Int) then (some ((rd_str h1 t1.1), t1.2, h1)) else none) else none)
def spec_l01Pick_o1.c : FnD := { f := 142, sh := true, ps := [.vc (.c (.ptr 0 0)), .vc (.c (.own 1))], pb := [.cells 145 [.sl false (.int .u8), .int .i64, .int .i64], .arr .str .un], vc := .c (.str), bs := [.cells 145 [.sl false (.int .u8), .int .i64, .int .i64], .arr .str .un], R := ByteArray × S145 × (List ByteArray), fn := fun _ x y => spec_l01Pick_o1.f (y.1.1, y.1.2.1, y.1.2.2.1) y.2.1, out := fun y => (y.1, ((y.2.1.1, y.2.1.2.1, y.2.1.2.2, ()), y.2.2, ())), inn := fun d => (d.1, (d.2.1.1, d.2.1.2.1, d.2.1.2.2.1), d.2.2.1), inv := fun _ => rfl }
theorem spec_l01Pick_o1.ok : spec_l01Pick_o1.c.OK Try.prog :=
  FnD.of spec_l01Pick_o1.c mix tok (fn := Try.f142) Try.func142 (by kernel_rfl) (fun _ _ => by kernel_rfl) (by kernel_rfl) (by kernel_rfl) [spec_l01Below_o1.c] ⟨spec_l01Below_o1.ok, trivial⟩
    [] { c := fun _ => none, cc := [], ms := [], sh := true, fm := [] } rfl 5000 trivial (fun k x y => by kernel_rfl)

end
end Go.Proofs.Ytfmbebgpbgcpeaa.PDr
