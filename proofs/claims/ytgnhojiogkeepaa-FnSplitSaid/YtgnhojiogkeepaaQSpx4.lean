/- Go functions as Lean functions, each with its contract. -/
import Derived.Test.YtgnhojiogkeepaaQSpx3
set_option linter.unusedVariables false
set_option maxRecDepth 100000
namespace Go.Proofs.Ytgnhojiogkeepaa.PSp
open Go Go.Proofs Go.RowKit Go.Proofs.Ytgnhojiogkeepaa.V
noncomputable section
/-! ### loop.example/g00076/spec.l13PartOk: function 127 -/
def spec_l13PartOk.l10 : Nat → Int → Bool → Int → S75 → Option (Bool)
  | 0, _, _, _, _ => none
  | k + 1, x1, x5, x6, y0 => if x6 < (y0.f3.length : Int) then (if 0 ≤ x6 then (if x6 < (y0.f3.length : Int) then ((spec_WindowOk.f (rd_T40 y0.f3 x6)).bind fun t4 => (if t4 = true then (if (wrap64 (((rd_T40 y0.f3 x6).f0) + ((rd_T40 y0.f3 x6).f1))) > x1 then (some false) else ((spec_l07Has.f (rd_T40 y0.f3 x6) y0.f1).bind fun t5 => (if t5 = true then (if (wrap64 (Int.tdiv ((rd_T40 y0.f3 x6).f2) 4)) = 1 then (spec_l13PartOk.l10 k x1 true (wrap64 (x6 + 1)) y0) else (spec_l13PartOk.l10 k x1 x5 (wrap64 (x6 + 1)) y0)) else (spec_l13PartOk.l10 k x1 x5 (wrap64 (x6 + 1)) y0)))) else (some false))) else none) else none) else (if x5 = true then (some (decide ((Int.tmod y0.f1 4) = 0))) else (some false))
def spec_l13PartOk.f (k : Nat) (a0 : S75) (a1 : Int) : Option (Bool) := (spec_NameOk.f k a0.f0).bind fun t1 => (if t1 = true then ((spec_PolicyOk.f a0.f2).bind fun t2 => (if t2 = true then ((spec_l01In.f (a0.f3.length : Int) 1 4).bind fun t3 => (if t3 = true then (spec_l13PartOk.l10 k a1 false 0 a0) else (some false))) else (some false))) else (some false))
def spec_l13PartOk.c : FnD := { f := 127, sh := false, ps := [.agg T75, .c (.int .i64)], pb := [], vc := .c (.bool), bs := [], R := Bool, fn := fun k x y => spec_l13PartOk.f k x.1 x.2.1, out := fun y => (y, ()), inn := fun d => d.1, inv := fun _ => rfl }
theorem spec_l13PartOk.ok : spec_l13PartOk.c.OK Try.prog :=
  FnD.of spec_l13PartOk.c mix tok (fn := Try.f127) Try.func127 (by kernel_rfl) (fun _ _ => by kernel_rfl) (by kernel_rfl) (by kernel_rfl) [spec_NameOk.c, spec_PolicyOk.c, spec_l01In.c, spec_WindowOk.c, spec_l07Has.c] ⟨spec_NameOk.ok, ⟨spec_PolicyOk.ok, ⟨spec_l01In.ok, ⟨spec_WindowOk.ok, ⟨spec_l07Has.ok, trivial⟩⟩⟩⟩⟩
    [{ lbl := 10, live := [(1, none), (2, none), (5, none), (6, none)], ms := [], vs := [.c (.int .i64), .c (.ptr 0 0), .c (.bool), .c (.int .i64)], bs := [.cells 75 [.str, .int .i64, .int .i64, .int .i64, .sl false T40]], f := fun k x y => spec_l13PartOk.l10 k x.1 x.2.2.1 x.2.2.2.1 (y.1.1, y.1.2.1, (y.1.2.2.1, y.1.2.2.2.1), y.1.2.2.2.2.1) }] { c := fun _ => none, cc := [], ms := [], tn := [], sh := false, fm := [] } rfl 5000 ⟨⟨fun _ _ => rfl, fun k x y => by kernel_rfl⟩, trivial⟩ (fun k x y => by kernel_rfl)

/-! ### loop.example/g00076/spec.l13Windows: function 128 -/
def spec_l13Windows.l6 : Nat → (List S75) → Int → (List S40) → Option ((List S40))
  | 0, _, _, _ => none
  | k + 1, x0, x4, h0 => if x4 < (x0.length : Int) then (if 0 ≤ x4 then (if x4 < (x0.length : Int) then (if h0.length + ((rd_T75 x0 x4).f3).length < 5864062014805 then (spec_l13Windows.l6 k x0 (wrap64 (x4 + 1)) (h0 ++ ((rd_T75 x0 x4).f3))) else none) else none) else none) else (some h0)
def spec_l13Windows.f (k : Nat) (a0 : List S75) : Option ((List S40)) := spec_l13Windows.l6 k a0 0 ([] : List S40)
def spec_l13Windows.c : FnD := { f := 128, sh := false, ps := [.c (.sl T75)], pb := [], vc := .c (.own 0), bs := [.arr T40 .un], R := (List S40), fn := fun k x y => spec_l13Windows.f k x.1, out := fun y => ((), (y, ())), inn := fun d => d.2.1, inv := fun _ => rfl }
theorem spec_l13Windows.ok : spec_l13Windows.c.OK Try.prog :=
  FnD.of spec_l13Windows.c mix tok (fn := Try.f128) Try.func128 (by kernel_rfl) (fun _ _ => by kernel_rfl) (by kernel_rfl) (by kernel_rfl) [] trivial
    [{ lbl := 6, live := [(0, none), (3, none), (4, none)], ms := [], vs := [.c (.sl false T75), .c (.own 0), .c (.int .i64)], bs := [.arr T40 .un], f := fun k x y => spec_l13Windows.l6 k x.1 x.2.2.1 y.1 }] { c := fun _ => none, cc := [], ms := [], tn := [], sh := false, fm := [] } rfl 5000 ⟨⟨fun _ _ => rfl, fun k x y => by kernel_rfl⟩, trivial⟩ (fun k x y => by kernel_rfl)

/-! ### loop.example/g00076/spec.l13Parts: function 87 -/
mutual
def spec_l13Parts.l8 : Nat → Int → S50 → Option (Bool)
  | 0, _, _ => none
  | k + 1, x3, y0 => if x3 < (y0.f7.length : Int) then (if 0 ≤ x3 then (if x3 < (y0.f7.length : Int) then ((spec_l13PartOk.f k (rd_T75 y0.f7 x3) y0.f0).bind fun t2 => (if t2 = true then (spec_l13Parts.l18 k x3 0 y0) else (some false))) else none) else none) else ((spec_l13Windows.f k y0.f7).bind fun t3 => (spec_l13Parts.l30 k 0 t3))
def spec_l13Parts.l18 : Nat → Int → Int → S50 → Option (Bool)
  | 0, _, _, _ => none
  | k + 1, x3, x4, y0 => if x4 < x3 then (if 0 ≤ x4 then (if x4 < (y0.f7.length : Int) then (if 0 ≤ x3 then (if x3 < (y0.f7.length : Int) then (if (rd_T75 y0.f7 x4).f0 = (rd_T75 y0.f7 x3).f0 then (some false) else (spec_l13Parts.l18 k x3 (wrap64 (x4 + 1)) y0)) else none) else none) else none) else none) else (spec_l13Parts.l8 k (wrap64 (x3 + 1)) y0)
def spec_l13Parts.l30 : Nat → Int → (List S40) → Option (Bool)
  | 0, _, _ => none
  | k + 1, x6, h0 => if x6 < (lenZ h0) then (spec_l13Parts.l36 k x6 0 h0) else (some true)
def spec_l13Parts.l36 : Nat → Int → Int → (List S40) → Option (Bool)
  | 0, _, _, _ => none
  | k + 1, x6, x7, h0 => if x7 < x6 then (if 0 ≤ x7 then (if x7 < (h0.length : Int) then (if 0 ≤ x6 then (if x6 < (h0.length : Int) then (if 0 ≤ x6 then (if x6 < (h0.length : Int) then (if (rd_T40 h0 x7).f0 < (wrap64 (((rd_T40 h0 x6).f0) + ((rd_T40 h0 x6).f1))) then (if 0 ≤ x6 then (if x6 < (h0.length : Int) then (if 0 ≤ x7 then (if x7 < (h0.length : Int) then (if 0 ≤ x7 then (if x7 < (h0.length : Int) then (if (rd_T40 h0 x6).f0 < (wrap64 (((rd_T40 h0 x7).f0) + ((rd_T40 h0 x7).f1))) then (some false) else (spec_l13Parts.l36 k x6 (wrap64 (x7 + 1)) h0)) else none) else none) else none) else none) else none) else none) else (spec_l13Parts.l36 k x6 (wrap64 (x7 + 1)) h0)) else none) else none) else none) else none) else none) else none) else (spec_l13Parts.l30 k (wrap64 (x6 + 1)) h0)
end
def spec_l13Parts.f (k : Nat) (a0 : S50) : Option (Bool) := (spec_l01In.f (a0.f7.length : Int) 1 6).bind fun t1 => (if t1 = true then (spec_l13Parts.l8 k 0 a0) else (some false))
def spec_l13Parts.c : FnD := { f := 87, sh := false, ps := [.agg T50], pb := [], vc := .c (.bool), bs := [], R := Bool, fn := fun k x y => spec_l13Parts.f k x.1, out := fun y => (y, ()), inn := fun d => d.1, inv := fun _ => rfl }
theorem spec_l13Parts.ok : spec_l13Parts.c.OK Try.prog :=
  FnD.of spec_l13Parts.c mix tok (fn := Try.f87) Try.func87 (by kernel_rfl) (fun _ _ => by kernel_rfl) (by kernel_rfl) (by kernel_rfl) [spec_l01In.c, spec_l13PartOk.c, spec_l13Windows.c] ⟨spec_l01In.ok, ⟨spec_l13PartOk.ok, ⟨spec_l13Windows.ok, trivial⟩⟩⟩
    [{ lbl := 8, live := [(1, none), (3, none)], ms := [], vs := [.c (.ptr 0 0), .c (.int .i64)], bs := [.cells 50 [.int .i64, .int .i64, .int .i64, .int .i64, .int .i64, .int .i64, .int .i64, .int .i64, .int .i64, .int .i64, .int .i64, .int .i64, .int .i64, .int .i64, .int .i64, .sl false T75, .sl false (.int .i64), .sl false T117, .sl false T86]], f := fun k x y => spec_l13Parts.l8 k x.2.1 (y.1.1, (y.1.2.1, y.1.2.2.1, y.1.2.2.2.1), y.1.2.2.2.2.1, (y.1.2.2.2.2.2.1, y.1.2.2.2.2.2.2.1, y.1.2.2.2.2.2.2.2.1, y.1.2.2.2.2.2.2.2.2.1, y.1.2.2.2.2.2.2.2.2.2.1, y.1.2.2.2.2.2.2.2.2.2.2.1, y.1.2.2.2.2.2.2.2.2.2.2.2.1), y.1.2.2.2.2.2.2.2.2.2.2.2.2.1, y.1.2.2.2.2.2.2.2.2.2.2.2.2.2.1, y.1.2.2.2.2.2.2.2.2.2.2.2.2.2.2.1, y.1.2.2.2.2.2.2.2.2.2.2.2.2.2.2.2.1, y.1.2.2.2.2.2.2.2.2.2.2.2.2.2.2.2.2.1, y.1.2.2.2.2.2.2.2.2.2.2.2.2.2.2.2.2.2.1, y.1.2.2.2.2.2.2.2.2.2.2.2.2.2.2.2.2.2.2.1) },
      { lbl := 18, live := [(1, none), (3, none), (4, none)], ms := [], vs := [.c (.ptr 0 0), .c (.int .i64), .c (.int .i64)], bs := [.cells 50 [.int .i64, .int .i64, .int .i64, .int .i64, .int .i64, .int .i64, .int .i64, .int .i64, .int .i64, .int .i64, .int .i64, .int .i64, .int .i64, .int .i64, .int .i64, .sl false T75, .sl false (.int .i64), .sl false T117, .sl false T86]], f := fun k x y => spec_l13Parts.l18 k x.2.1 x.2.2.1 (y.1.1, (y.1.2.1, y.1.2.2.1, y.1.2.2.2.1), y.1.2.2.2.2.1, (y.1.2.2.2.2.2.1, y.1.2.2.2.2.2.2.1, y.1.2.2.2.2.2.2.2.1, y.1.2.2.2.2.2.2.2.2.1, y.1.2.2.2.2.2.2.2.2.2.1, y.1.2.2.2.2.2.2.2.2.2.2.1, y.1.2.2.2.2.2.2.2.2.2.2.2.1), y.1.2.2.2.2.2.2.2.2.2.2.2.2.1, y.1.2.2.2.2.2.2.2.2.2.2.2.2.2.1, y.1.2.2.2.2.2.2.2.2.2.2.2.2.2.2.1, y.1.2.2.2.2.2.2.2.2.2.2.2.2.2.2.2.1, y.1.2.2.2.2.2.2.2.2.2.2.2.2.2.2.2.2.1, y.1.2.2.2.2.2.2.2.2.2.2.2.2.2.2.2.2.2.1, y.1.2.2.2.2.2.2.2.2.2.2.2.2.2.2.2.2.2.2.1) },
      { lbl := 30, live := [(5, none), (6, none)], ms := [], vs := [.c (.own 0), .c (.int .i64)], bs := [.arr T40 .un], f := fun k x y => spec_l13Parts.l30 k x.2.1 y.1 },
      { lbl := 36, live := [(5, none), (6, none), (7, none)], ms := [], vs := [.c (.own 0), .c (.int .i64), .c (.int .i64)], bs := [.arr T40 .un], f := fun k x y => spec_l13Parts.l36 k x.2.1 x.2.2.1 y.1 }] { c := fun _ => none, cc := [], ms := [], tn := [], sh := false, fm := [] } rfl 5000 ⟨⟨fun _ _ => rfl, fun k x y => by kernel_rfl⟩, ⟨⟨fun _ _ => rfl, fun k x y => by kernel_rfl⟩, ⟨⟨fun _ _ => rfl, fun k x y => by kernel_rfl⟩, ⟨⟨fun _ _ => rfl, fun k x y => by kernel_rfl⟩, trivial⟩⟩⟩⟩ (fun k x y => by kernel_rfl)

/-! ### loop.example/g00076/spec.l13Chans: function 88 -/
mutual
def spec_l13Chans.l8 : Nat → Int → S50 → Option (Bool)
  | 0, _, _ => none
  | k + 1, x3, y0 => if x3 < (y0.f8.length : Int) then (if 0 ≤ x3 then (if x3 < (y0.f8.length : Int) then ((spec_l01In.f (rd y0.f8 x3) 0 (wrap64 ((y0.f7.length : Int) - 1))).bind fun t1 => (if t1 = true then (spec_l13Chans.l8 k (wrap64 (x3 + 1)) y0) else (some false))) else none) else none) else (spec_l13Chans.l18 k 0 y0)
def spec_l13Chans.l18 : Nat → Int → S50 → Option (Bool)
  | 0, _, _ => none
  | k + 1, x4, y0 => if x4 < (y0.f9.length : Int) then (if 0 ≤ x4 then (if x4 < (y0.f9.length : Int) then ((spec_ChanOk.f (rd_T117 y0.f9 x4)).bind fun t2 => (if t2 = true then (if 0 ≤ x4 then (if x4 < (y0.f9.length : Int) then (if (rd_T117 y0.f9 x4).f1 ≥ (y0.f7.length : Int) then (some false) else (if 0 ≤ x4 then (if x4 < (y0.f9.length : Int) then (if (rd_T117 y0.f9 x4).f2 ≥ (y0.f7.length : Int) then (some false) else (spec_l13Chans.l18 k (wrap64 (x4 + 1)) y0)) else none) else none)) else none) else none) else (some false))) else none) else none) else ((spec_WorstPad.f k y0.f3 y0.f1 y0.f9).bind fun t3 => (some (decide (y0.f4 ≥ t3))))
end
def spec_l13Chans.f (k : Nat) (a0 : S50) : Option (Bool) := if (a0.f8.length : Int) > 8 then (some false) else (if (a0.f9.length : Int) > 8 then (some false) else (spec_l13Chans.l8 k 0 a0))
def spec_l13Chans.c : FnD := { f := 88, sh := false, ps := [.agg T50], pb := [], vc := .c (.bool), bs := [], R := Bool, fn := fun k x y => spec_l13Chans.f k x.1, out := fun y => (y, ()), inn := fun d => d.1, inv := fun _ => rfl }
theorem spec_l13Chans.ok : spec_l13Chans.c.OK Try.prog :=
  FnD.of spec_l13Chans.c mix tok (fn := Try.f88) Try.func88 (by kernel_rfl) (fun _ _ => by kernel_rfl) (by kernel_rfl) (by kernel_rfl) [spec_l01In.c, spec_ChanOk.c, spec_WorstPad.c] ⟨spec_l01In.ok, ⟨spec_ChanOk.ok, ⟨spec_WorstPad.ok, trivial⟩⟩⟩
    [{ lbl := 8, live := [(1, none), (3, none)], ms := [], vs := [.c (.ptr 0 0), .c (.int .i64)], bs := [.cells 50 [.int .i64, .int .i64, .int .i64, .int .i64, .int .i64, .int .i64, .int .i64, .int .i64, .int .i64, .int .i64, .int .i64, .int .i64, .int .i64, .int .i64, .int .i64, .sl false T75, .sl false (.int .i64), .sl false T117, .sl false T86]], f := fun k x y => spec_l13Chans.l8 k x.2.1 (y.1.1, (y.1.2.1, y.1.2.2.1, y.1.2.2.2.1), y.1.2.2.2.2.1, (y.1.2.2.2.2.2.1, y.1.2.2.2.2.2.2.1, y.1.2.2.2.2.2.2.2.1, y.1.2.2.2.2.2.2.2.2.1, y.1.2.2.2.2.2.2.2.2.2.1, y.1.2.2.2.2.2.2.2.2.2.2.1, y.1.2.2.2.2.2.2.2.2.2.2.2.1), y.1.2.2.2.2.2.2.2.2.2.2.2.2.1, y.1.2.2.2.2.2.2.2.2.2.2.2.2.2.1, y.1.2.2.2.2.2.2.2.2.2.2.2.2.2.2.1, y.1.2.2.2.2.2.2.2.2.2.2.2.2.2.2.2.1, y.1.2.2.2.2.2.2.2.2.2.2.2.2.2.2.2.2.1, y.1.2.2.2.2.2.2.2.2.2.2.2.2.2.2.2.2.2.1, y.1.2.2.2.2.2.2.2.2.2.2.2.2.2.2.2.2.2.2.1) },
      { lbl := 18, live := [(1, none), (4, none)], ms := [], vs := [.c (.ptr 0 0), .c (.int .i64)], bs := [.cells 50 [.int .i64, .int .i64, .int .i64, .int .i64, .int .i64, .int .i64, .int .i64, .int .i64, .int .i64, .int .i64, .int .i64, .int .i64, .int .i64, .int .i64, .int .i64, .sl false T75, .sl false (.int .i64), .sl false T117, .sl false T86]], f := fun k x y => spec_l13Chans.l18 k x.2.1 (y.1.1, (y.1.2.1, y.1.2.2.1, y.1.2.2.2.1), y.1.2.2.2.2.1, (y.1.2.2.2.2.2.1, y.1.2.2.2.2.2.2.1, y.1.2.2.2.2.2.2.2.1, y.1.2.2.2.2.2.2.2.2.1, y.1.2.2.2.2.2.2.2.2.2.1, y.1.2.2.2.2.2.2.2.2.2.2.1, y.1.2.2.2.2.2.2.2.2.2.2.2.1), y.1.2.2.2.2.2.2.2.2.2.2.2.2.1, y.1.2.2.2.2.2.2.2.2.2.2.2.2.2.1, y.1.2.2.2.2.2.2.2.2.2.2.2.2.2.2.1, y.1.2.2.2.2.2.2.2.2.2.2.2.2.2.2.2.1, y.1.2.2.2.2.2.2.2.2.2.2.2.2.2.2.2.2.1, y.1.2.2.2.2.2.2.2.2.2.2.2.2.2.2.2.2.2.1, y.1.2.2.2.2.2.2.2.2.2.2.2.2.2.2.2.2.2.2.1) }] { c := fun _ => none, cc := [], ms := [], tn := [], sh := false, fm := [] } rfl 5000 ⟨⟨fun _ _ => rfl, fun k x y => by kernel_rfl⟩, ⟨⟨fun _ _ => rfl, fun k x y => by kernel_rfl⟩, trivial⟩⟩ (fun k x y => by kernel_rfl)

/-! ### loop.example/g00076/spec.l13Slots: function 89 -/
def spec_l13Slots.l10 : Nat → Int → Int → S50 → Option (Bool)
  | 0, _, _, _ => none
  | k + 1, x3, x4, y0 => if x4 < (y0.f10.length : Int) then (if 0 ≤ x4 then (if x4 < (y0.f10.length : Int) then ((spec_l01In.f ((rd_T86 y0.f10 x4).f0) 0 (wrap64 ((y0.f7.length : Int) - 1))).bind fun t2 => (if t2 = true then ((spec_l01In.f ((rd_T86 y0.f10 x4).f1) x3 5000).bind fun t3 => (if t3 = true then ((spec_l01In.f ((rd_T86 y0.f10 x4).f2) (wrap64 ((wrap64 (y0.f4 + y0.f5)) + 1)) 5000).bind fun t4 => (if t4 = true then (if (wrap64 (((rd_T86 y0.f10 x4).f1) + ((rd_T86 y0.f10 x4).f2))) > y0.f6 then (some false) else (spec_l13Slots.l10 k (wrap64 (((rd_T86 y0.f10 x4).f1) + ((rd_T86 y0.f10 x4).f2))) (wrap64 (x4 + 1)) y0)) else (some false))) else (some false))) else (some false))) else none) else none) else (some true)
def spec_l13Slots.f (k : Nat) (a0 : S50) : Option (Bool) := (spec_l01In.f (a0.f10.length : Int) 1 16).bind fun t1 => (if t1 = true then (spec_l13Slots.l10 k 0 0 a0) else (some false))
def spec_l13Slots.c : FnD := { f := 89, sh := false, ps := [.agg T50], pb := [], vc := .c (.bool), bs := [], R := Bool, fn := fun k x y => spec_l13Slots.f k x.1, out := fun y => (y, ()), inn := fun d => d.1, inv := fun _ => rfl }
theorem spec_l13Slots.ok : spec_l13Slots.c.OK Try.prog :=
  FnD.of spec_l13Slots.c mix tok (fn := Try.f89) Try.func89 (by kernel_rfl) (fun _ _ => by kernel_rfl) (by kernel_rfl) (by kernel_rfl) [spec_l01In.c] ⟨spec_l01In.ok, trivial⟩
    [{ lbl := 10, live := [(1, none), (3, none), (4, none)], ms := [], vs := [.c (.ptr 0 0), .c (.int .i64), .c (.int .i64)], bs := [.cells 50 [.int .i64, .int .i64, .int .i64, .int .i64, .int .i64, .int .i64, .int .i64, .int .i64, .int .i64, .int .i64, .int .i64, .int .i64, .int .i64, .int .i64, .int .i64, .sl false T75, .sl false (.int .i64), .sl false T117, .sl false T86]], f := fun k x y => spec_l13Slots.l10 k x.2.1 x.2.2.1 (y.1.1, (y.1.2.1, y.1.2.2.1, y.1.2.2.2.1), y.1.2.2.2.2.1, (y.1.2.2.2.2.2.1, y.1.2.2.2.2.2.2.1, y.1.2.2.2.2.2.2.2.1, y.1.2.2.2.2.2.2.2.2.1, y.1.2.2.2.2.2.2.2.2.2.1, y.1.2.2.2.2.2.2.2.2.2.2.1, y.1.2.2.2.2.2.2.2.2.2.2.2.1), y.1.2.2.2.2.2.2.2.2.2.2.2.2.1, y.1.2.2.2.2.2.2.2.2.2.2.2.2.2.1, y.1.2.2.2.2.2.2.2.2.2.2.2.2.2.2.1, y.1.2.2.2.2.2.2.2.2.2.2.2.2.2.2.2.1, y.1.2.2.2.2.2.2.2.2.2.2.2.2.2.2.2.2.1, y.1.2.2.2.2.2.2.2.2.2.2.2.2.2.2.2.2.2.1, y.1.2.2.2.2.2.2.2.2.2.2.2.2.2.2.2.2.2.2.1) }] { c := fun _ => none, cc := [], ms := [], tn := [], sh := false, fm := [] } rfl 5000 ⟨⟨fun _ _ => rfl, fun k x y => by kernel_rfl⟩, trivial⟩ (fun k x y => by kernel_rfl)

/-! ### loop.example/g00076/spec.Sound: function 51 -/
def spec_Sound.f (k : Nat) (a0 : S50) : Option (Bool) := (spec_l13Head.f k a0).bind fun t1 => (if t1 = true then ((spec_l13Parts.f k a0).bind fun t2 => (if t2 = true then ((spec_l13Chans.f k a0).bind fun t3 => (if t3 = true then ((spec_l13Slots.f k a0).bind fun t4 => (some t4)) else (some false))) else (some false))) else (some false))
def spec_Sound.c : FnD := { f := 51, sh := false, ps := [.agg T50], pb := [], vc := .c (.bool), bs := [], R := Bool, fn := fun k x y => spec_Sound.f k x.1, out := fun y => (y, ()), inn := fun d => d.1, inv := fun _ => rfl }
theorem spec_Sound.ok : spec_Sound.c.OK Try.prog :=
  FnD.of spec_Sound.c mix tok (fn := Try.f51) Try.func51 (by kernel_rfl) (fun _ _ => by kernel_rfl) (by kernel_rfl) (by kernel_rfl) [spec_l13Head.c, spec_l13Parts.c, spec_l13Chans.c, spec_l13Slots.c] ⟨spec_l13Head.ok, ⟨spec_l13Parts.ok, ⟨spec_l13Chans.ok, ⟨spec_l13Slots.ok, trivial⟩⟩⟩⟩
    [] { c := fun _ => none, cc := [], ms := [], tn := [], sh := false, fm := [] } rfl 5000 trivial (fun k x y => by kernel_rfl)

/-! ### loop.example/g00076/spec.l23Copy: function 61 -/
def spec_l23Copy.l14 : Nat → Int → S50 → S50 → S50 → Option (S50)
  | 0, _, _, _, _ => none
  | k + 1, x6, y0, y1, y2 => if x6 < (y0.f7.length : Int) then (if 0 ≤ x6 then (if x6 < (y0.f7.length : Int) then (if 0 ≤ x6 then (if x6 < (y0.f7.length : Int) then (if ([] : List S40).length + ((rd_T75 y0.f7 x6).f3).length < 5864062014805 then (if y2.f7.length + ([(⟨(rd_T75 y0.f7 x6).f0, (rd_T75 y0.f7 x6).f1, (rd_T75 y0.f7 x6).f2, (([] : List S40) ++ ((rd_T75 y0.f7 x6).f3))⟩ : S75)] : List S75).length < 2199023255552 then (spec_l23Copy.l14 k (wrap64 (x6 + 1)) y0 (⟨y1.f0, y1.f1, y1.f2, y1.f3, y1.f4, y1.f5, y1.f6, ([] : List S75), ([] : List Int), ([] : List S117), ([] : List S86)⟩ : S50) (⟨y2.f0, y2.f1, y2.f2, y2.f3, y2.f4, y2.f5, y2.f6, (y2.f7 ++ ([(⟨(rd_T75 y0.f7 x6).f0, (rd_T75 y0.f7 x6).f1, (rd_T75 y0.f7 x6).f2, (([] : List S40) ++ ((rd_T75 y0.f7 x6).f3))⟩ : S75)] : List S75)), y2.f8, y2.f9, y2.f10⟩ : S50)) else none) else none) else none) else none) else none) else none) else (some y2)
def spec_l23Copy.f (k : Nat) (a0 : S50) (a1 : List S86) : Option (S50) := if ([] : List S86).length + a1.length < 5864062014805 then (if ([] : List Int).length + a0.f8.length < 17592186044416 then (if ([] : List S117).length + a0.f9.length < 4398046511104 then (spec_l23Copy.l14 k 0 a0 (⟨0, (⟨0, 0, 0⟩ : S42), 0, (⟨0, 0, 0, 0, 0, 0, 0⟩ : S44), 0, 0, 0, ([] : List S75), ([] : List Int), ([] : List S117), ([] : List S86)⟩ : S50) (⟨a0.f0, a0.f1, a0.f2, a0.f3, a0.f4, a0.f5, a0.f6, ([] : List S75), (([] : List Int) ++ a0.f8), (([] : List S117) ++ a0.f9), (([] : List S86) ++ a1)⟩ : S50)) else none) else none) else none
def spec_l23Copy.c : FnD := { f := 61, sh := false, ps := [.agg T50, .c (.sl T86)], pb := [], vc := .agg [.int .i64, .int .i64, .int .i64, .int .i64, .int .i64, .int .i64, .int .i64, .int .i64, .int .i64, .int .i64, .int .i64, .int .i64, .int .i64, .int .i64, .int .i64, .own 0, .own 1, .own 2, .own 3], bs := [.arr T75 .un, .arr (.int .i64) .un, .arr T117 .un, .arr T86 .un], R := S50, fn := fun k x y => spec_l23Copy.f k x.1 x.2.1, out := fun y => ((y.1, y.2.1.1, y.2.1.2.1, y.2.1.2.2, y.2.2.1, y.2.2.2.1.1, y.2.2.2.1.2.1, y.2.2.2.1.2.2.1, y.2.2.2.1.2.2.2.1, y.2.2.2.1.2.2.2.2.1, y.2.2.2.1.2.2.2.2.2.1, y.2.2.2.1.2.2.2.2.2.2, y.2.2.2.2.1, y.2.2.2.2.2.1, y.2.2.2.2.2.2.1, (), (), (), (), ()), (y.2.2.2.2.2.2.2.1, y.2.2.2.2.2.2.2.2.1, y.2.2.2.2.2.2.2.2.2.1, y.2.2.2.2.2.2.2.2.2.2, ())), inn := fun d => (d.1.1, (d.1.2.1, d.1.2.2.1, d.1.2.2.2.1), d.1.2.2.2.2.1, (d.1.2.2.2.2.2.1, d.1.2.2.2.2.2.2.1, d.1.2.2.2.2.2.2.2.1, d.1.2.2.2.2.2.2.2.2.1, d.1.2.2.2.2.2.2.2.2.2.1, d.1.2.2.2.2.2.2.2.2.2.2.1, d.1.2.2.2.2.2.2.2.2.2.2.2.1), d.1.2.2.2.2.2.2.2.2.2.2.2.2.1, d.1.2.2.2.2.2.2.2.2.2.2.2.2.2.1, d.1.2.2.2.2.2.2.2.2.2.2.2.2.2.2.1, d.2.1, d.2.2.1, d.2.2.2.1, d.2.2.2.2.1), inv := fun _ => rfl }
theorem spec_l23Copy.ok : spec_l23Copy.c.OK Try.prog :=
  FnD.of spec_l23Copy.c mix tok (fn := Try.f61) Try.func61 (by kernel_rfl) (fun _ _ => by kernel_rfl) (by kernel_rfl) (by kernel_rfl) [] trivial
    [{ lbl := 14, live := [(2, none), (4, none), (5, none), (6, none)], ms := [], vs := [.c (.ptr 0 0), .c (.ptr 1 0), .c (.ptr 2 0), .c (.int .i64)], bs := [.cells 50 [.int .i64, .int .i64, .int .i64, .int .i64, .int .i64, .int .i64, .int .i64, .int .i64, .int .i64, .int .i64, .int .i64, .int .i64, .int .i64, .int .i64, .int .i64, .sl false T75, .sl false (.int .i64), .sl false T117, .sl false T86], .cells 50 [.int .i64, .int .i64, .int .i64, .int .i64, .int .i64, .int .i64, .int .i64, .int .i64, .int .i64, .int .i64, .int .i64, .int .i64, .int .i64, .int .i64, .int .i64, .nil, .nil, .nil, .nil], .cells 50 [.int .i64, .int .i64, .int .i64, .int .i64, .int .i64, .int .i64, .int .i64, .int .i64, .int .i64, .int .i64, .int .i64, .int .i64, .int .i64, .int .i64, .int .i64, .own 3, .own 4, .own 5, .own 6], .arr T75 .un, .arr (.int .i64) .un, .arr T117 .un, .arr T86 .un], f := fun k x y => spec_l23Copy.l14 k x.2.2.2.1 (y.1.1, (y.1.2.1, y.1.2.2.1, y.1.2.2.2.1), y.1.2.2.2.2.1, (y.1.2.2.2.2.2.1, y.1.2.2.2.2.2.2.1, y.1.2.2.2.2.2.2.2.1, y.1.2.2.2.2.2.2.2.2.1, y.1.2.2.2.2.2.2.2.2.2.1, y.1.2.2.2.2.2.2.2.2.2.2.1, y.1.2.2.2.2.2.2.2.2.2.2.2.1), y.1.2.2.2.2.2.2.2.2.2.2.2.2.1, y.1.2.2.2.2.2.2.2.2.2.2.2.2.2.1, y.1.2.2.2.2.2.2.2.2.2.2.2.2.2.2.1, y.1.2.2.2.2.2.2.2.2.2.2.2.2.2.2.2.1, y.1.2.2.2.2.2.2.2.2.2.2.2.2.2.2.2.2.1, y.1.2.2.2.2.2.2.2.2.2.2.2.2.2.2.2.2.2.1, y.1.2.2.2.2.2.2.2.2.2.2.2.2.2.2.2.2.2.2.1) (y.2.1.1, (y.2.1.2.1, y.2.1.2.2.1, y.2.1.2.2.2.1), y.2.1.2.2.2.2.1, (y.2.1.2.2.2.2.2.1, y.2.1.2.2.2.2.2.2.1, y.2.1.2.2.2.2.2.2.2.1, y.2.1.2.2.2.2.2.2.2.2.1, y.2.1.2.2.2.2.2.2.2.2.2.1, y.2.1.2.2.2.2.2.2.2.2.2.2.1, y.2.1.2.2.2.2.2.2.2.2.2.2.2.1), y.2.1.2.2.2.2.2.2.2.2.2.2.2.2.1, y.2.1.2.2.2.2.2.2.2.2.2.2.2.2.2.1, y.2.1.2.2.2.2.2.2.2.2.2.2.2.2.2.2.1, [], [], [], []) (y.2.2.1.1, (y.2.2.1.2.1, y.2.2.1.2.2.1, y.2.2.1.2.2.2.1), y.2.2.1.2.2.2.2.1, (y.2.2.1.2.2.2.2.2.1, y.2.2.1.2.2.2.2.2.2.1, y.2.2.1.2.2.2.2.2.2.2.1, y.2.2.1.2.2.2.2.2.2.2.2.1, y.2.2.1.2.2.2.2.2.2.2.2.2.1, y.2.2.1.2.2.2.2.2.2.2.2.2.2.1, y.2.2.1.2.2.2.2.2.2.2.2.2.2.2.1), y.2.2.1.2.2.2.2.2.2.2.2.2.2.2.2.1, y.2.2.1.2.2.2.2.2.2.2.2.2.2.2.2.2.1, y.2.2.1.2.2.2.2.2.2.2.2.2.2.2.2.2.2.1, y.2.2.2.1, y.2.2.2.2.1, y.2.2.2.2.2.1, y.2.2.2.2.2.2.1) }] { c := fun _ => none, cc := [], ms := [], tn := [], sh := false, fm := [] } rfl 5000 ⟨⟨fun _ _ => rfl, fun k x y => by kernel_rfl⟩, trivial⟩ (fun k x y => by kernel_rfl)

/-! ### loop.example/g00076/spec.Split: function 23 -/
def spec_Split.l18 : Nat → Int → Int → Int → S50 → S50 → S86 → (List S86) → Option (S50 × Bool)
  | 0, _, _, _, _, _, _, _ => none
  | k + 1, x1, x2, x11, y0, y1, y2, h3 => if x11 < (y0.f10.length : Int) then (if x11 = x1 then (if h3.length + ([(⟨y2.f0, y2.f1, x2⟩ : S86), (⟨y2.f0, (wrap64 (y2.f1 + x2)), (wrap64 (y2.f2 - x2))⟩ : S86)] : List S86).length < 5864062014805 then (spec_Split.l18 k x1 x2 (wrap64 (x11 + 1)) y0 (⟨y1.f0, y1.f1, y1.f2, y1.f3, y1.f4, y1.f5, y1.f6, ([] : List S75), ([] : List Int), ([] : List S117), ([] : List S86)⟩ : S50) y2 (h3 ++ ([(⟨y2.f0, y2.f1, x2⟩ : S86), (⟨y2.f0, (wrap64 (y2.f1 + x2)), (wrap64 (y2.f2 - x2))⟩ : S86)] : List S86))) else none) else (if 0 ≤ x11 then (if x11 < (y0.f10.length : Int) then (if h3.length + ([(rd_T86 y0.f10 x11)] : List S86).length < 5864062014805 then (spec_Split.l18 k x1 x2 (wrap64 (x11 + 1)) y0 (⟨y1.f0, y1.f1, y1.f2, y1.f3, y1.f4, y1.f5, y1.f6, ([] : List S75), ([] : List Int), ([] : List S117), ([] : List S86)⟩ : S50) y2 (h3 ++ ([(rd_T86 y0.f10 x11)] : List S86))) else none) else none) else none)) else ((spec_l23Copy.f k y0 h3).bind fun t4 => (some (t4, true)))
def spec_Split.f (k : Nat) (a0 : S50) (a1 : Int) (a2 : Int) : Option (S50 × Bool) := (spec_Sound.f k a0).bind fun t1 => (if t1 = true then ((spec_l01In.f a1 0 (wrap64 ((a0.f10.length : Int) - 1))).bind fun t2 => (if t2 = true then (if (a0.f10.length : Int) ≥ 16 then (some ((⟨0, (⟨0, 0, 0⟩ : S42), 0, (⟨0, 0, 0, 0, 0, 0, 0⟩ : S44), 0, 0, 0, ([] : List S75), ([] : List Int), ([] : List S117), ([] : List S86)⟩ : S50), false)) else (if 0 ≤ a1 then (if a1 < (a0.f10.length : Int) then ((spec_l01In.f a2 (wrap64 ((wrap64 (a0.f4 + a0.f5)) + 1)) (wrap64 (((rd_T86 a0.f10 a1).f2) - (wrap64 ((wrap64 (a0.f4 + a0.f5)) + 1))))).bind fun t3 => (if t3 = true then (spec_Split.l18 k a1 a2 0 a0 (⟨0, (⟨0, 0, 0⟩ : S42), 0, (⟨0, 0, 0, 0, 0, 0, 0⟩ : S44), 0, 0, 0, ([] : List S75), ([] : List Int), ([] : List S117), ([] : List S86)⟩ : S50) (rd_T86 a0.f10 a1) ([] : List S86)) else (some ((⟨0, (⟨0, 0, 0⟩ : S42), 0, (⟨0, 0, 0, 0, 0, 0, 0⟩ : S44), 0, 0, 0, ([] : List S75), ([] : List Int), ([] : List S117), ([] : List S86)⟩ : S50), false)))) else none) else none)) else (some ((⟨0, (⟨0, 0, 0⟩ : S42), 0, (⟨0, 0, 0, 0, 0, 0, 0⟩ : S44), 0, 0, 0, ([] : List S75), ([] : List Int), ([] : List S117), ([] : List S86)⟩ : S50), false)))) else (some ((⟨0, (⟨0, 0, 0⟩ : S42), 0, (⟨0, 0, 0, 0, 0, 0, 0⟩ : S44), 0, 0, 0, ([] : List S75), ([] : List Int), ([] : List S117), ([] : List S86)⟩ : S50), false)))
def spec_Split.c : FnD := { f := 23, sh := false, ps := [.agg T50, .c (.int .i64), .c (.int .i64)], pb := [], vc := .tup [(true, [.int .i64, .int .i64, .int .i64, .int .i64, .int .i64, .int .i64, .int .i64, .int .i64, .int .i64, .int .i64, .int .i64, .int .i64, .int .i64, .int .i64, .int .i64, .own 0, .own 1, .own 2, .own 3]), (false, [.bool])], bs := [.arr T75 .un, .arr (.int .i64) .un, .arr T117 .un, .arr T86 .un], R := S50 × Bool, fn := fun k x y => spec_Split.f k x.1 x.2.1 x.2.2.1, out := fun y => (((y.1.1, y.1.2.1.1, y.1.2.1.2.1, y.1.2.1.2.2, y.1.2.2.1, y.1.2.2.2.1.1, y.1.2.2.2.1.2.1, y.1.2.2.2.1.2.2.1, y.1.2.2.2.1.2.2.2.1, y.1.2.2.2.1.2.2.2.2.1, y.1.2.2.2.1.2.2.2.2.2.1, y.1.2.2.2.1.2.2.2.2.2.2, y.1.2.2.2.2.1, y.1.2.2.2.2.2.1, y.1.2.2.2.2.2.2.1, (), (), (), (), ()), (y.2, ()), ()), (y.1.2.2.2.2.2.2.2.1, y.1.2.2.2.2.2.2.2.2.1, y.1.2.2.2.2.2.2.2.2.2.1, y.1.2.2.2.2.2.2.2.2.2.2, ())), inn := fun d => ((d.1.1.1, (d.1.1.2.1, d.1.1.2.2.1, d.1.1.2.2.2.1), d.1.1.2.2.2.2.1, (d.1.1.2.2.2.2.2.1, d.1.1.2.2.2.2.2.2.1, d.1.1.2.2.2.2.2.2.2.1, d.1.1.2.2.2.2.2.2.2.2.1, d.1.1.2.2.2.2.2.2.2.2.2.1, d.1.1.2.2.2.2.2.2.2.2.2.2.1, d.1.1.2.2.2.2.2.2.2.2.2.2.2.1), d.1.1.2.2.2.2.2.2.2.2.2.2.2.2.1, d.1.1.2.2.2.2.2.2.2.2.2.2.2.2.2.1, d.1.1.2.2.2.2.2.2.2.2.2.2.2.2.2.2.1, d.2.1, d.2.2.1, d.2.2.2.1, d.2.2.2.2.1), d.1.2.1.1), inv := fun _ => rfl }
theorem spec_Split.ok : spec_Split.c.OK Try.prog :=
  FnD.of spec_Split.c mix tok (fn := Try.f23) Try.func23 (by kernel_rfl) (fun _ _ => by kernel_rfl) (by kernel_rfl) (by kernel_rfl) [spec_Sound.c, spec_l01In.c, spec_l23Copy.c] ⟨spec_Sound.ok, ⟨spec_l01In.ok, ⟨spec_l23Copy.ok, trivial⟩⟩⟩
    [{ lbl := 18, live := [(1, none), (2, none), (3, none), (6, none), (8, none), (10, none), (11, none)], ms := [], vs := [.c (.int .i64), .c (.int .i64), .c (.ptr 0 0), .c (.ptr 1 0), .c (.ptr 2 0), .c (.own 3), .c (.int .i64)], bs := [.cells 50 [.int .i64, .int .i64, .int .i64, .int .i64, .int .i64, .int .i64, .int .i64, .int .i64, .int .i64, .int .i64, .int .i64, .int .i64, .int .i64, .int .i64, .int .i64, .sl false T75, .sl false (.int .i64), .sl false T117, .sl false T86], .cells 50 [.int .i64, .int .i64, .int .i64, .int .i64, .int .i64, .int .i64, .int .i64, .int .i64, .int .i64, .int .i64, .int .i64, .int .i64, .int .i64, .int .i64, .int .i64, .nil, .nil, .nil, .nil], .cells 86 [.int .i64, .int .i64, .int .i64], .arr T86 .un], f := fun k x y => spec_Split.l18 k x.1 x.2.1 x.2.2.2.2.2.2.1 (y.1.1, (y.1.2.1, y.1.2.2.1, y.1.2.2.2.1), y.1.2.2.2.2.1, (y.1.2.2.2.2.2.1, y.1.2.2.2.2.2.2.1, y.1.2.2.2.2.2.2.2.1, y.1.2.2.2.2.2.2.2.2.1, y.1.2.2.2.2.2.2.2.2.2.1, y.1.2.2.2.2.2.2.2.2.2.2.1, y.1.2.2.2.2.2.2.2.2.2.2.2.1), y.1.2.2.2.2.2.2.2.2.2.2.2.2.1, y.1.2.2.2.2.2.2.2.2.2.2.2.2.2.1, y.1.2.2.2.2.2.2.2.2.2.2.2.2.2.2.1, y.1.2.2.2.2.2.2.2.2.2.2.2.2.2.2.2.1, y.1.2.2.2.2.2.2.2.2.2.2.2.2.2.2.2.2.1, y.1.2.2.2.2.2.2.2.2.2.2.2.2.2.2.2.2.2.1, y.1.2.2.2.2.2.2.2.2.2.2.2.2.2.2.2.2.2.2.1) (y.2.1.1, (y.2.1.2.1, y.2.1.2.2.1, y.2.1.2.2.2.1), y.2.1.2.2.2.2.1, (y.2.1.2.2.2.2.2.1, y.2.1.2.2.2.2.2.2.1, y.2.1.2.2.2.2.2.2.2.1, y.2.1.2.2.2.2.2.2.2.2.1, y.2.1.2.2.2.2.2.2.2.2.2.1, y.2.1.2.2.2.2.2.2.2.2.2.2.1, y.2.1.2.2.2.2.2.2.2.2.2.2.2.1), y.2.1.2.2.2.2.2.2.2.2.2.2.2.2.1, y.2.1.2.2.2.2.2.2.2.2.2.2.2.2.2.1, y.2.1.2.2.2.2.2.2.2.2.2.2.2.2.2.2.1, [], [], [], []) (y.2.2.1.1, y.2.2.1.2.1, y.2.2.1.2.2.1) y.2.2.2.1 }] { c := fun n => bif Nat.beq n 15 then some (.row T75) else bif Nat.beq n 16 then some (.row (.int .i64)) else bif Nat.beq n 17 then some (.row T117) else bif Nat.beq n 18 then some (.row T86) else  none, cc := [], ms := [], tn := [], sh := false, fm := [] } rfl 5000 ⟨⟨fun _ _ => rfl, fun k x y => by kernel_rfl⟩, trivial⟩ (fun k x y => by kernel_rfl)

/-! ### loop.example/g00076/impl.within: function 56 -/
def impl_within.f (a0 : Int) (a1 : Int) (a2 : Int) : Option (Bool) := if a0 ≥ a1 then (some (decide (a0 ≤ a2))) else (some false)
def impl_within.c : FnD := { f := 56, sh := false, ps := [.c (.int .i64), .c (.int .i64), .c (.int .i64)], pb := [], vc := .c (.bool), bs := [], R := Bool, fn := fun _ x y => impl_within.f x.1 x.2.1 x.2.2.1, out := fun y => (y, ()), inn := fun d => d.1, inv := fun _ => rfl }
theorem impl_within.ok : impl_within.c.OK Try.prog :=
  FnD.of impl_within.c mix tok (fn := Try.f56) Try.func56 (by kernel_rfl) (fun _ _ => by kernel_rfl) (by kernel_rfl) (by kernel_rfl) [] trivial
    [] { c := fun _ => none, cc := [], ms := [], tn := [], sh := false, fm := [] } rfl 5000 trivial (fun k x y => by kernel_rfl)

/-! ### loop.example/g00076/impl.isMem: function 91 -/
def impl_isMem.f (a0 : Int) : Option (Bool) := (impl_within.f a0 64 2048).bind fun t1 => (if t1 = true then (some (decide ((Int.tmod a0 4) = 0))) else (some false))
def impl_isMem.c : FnD := { f := 91, sh := false, ps := [.c (.int .i64)], pb := [], vc := .c (.bool), bs := [], R := Bool, fn := fun _ x y => impl_isMem.f x.1, out := fun y => (y, ()), inn := fun d => d.1, inv := fun _ => rfl }
theorem impl_isMem.ok : impl_isMem.c.OK Try.prog :=
  FnD.of impl_isMem.c mix tok (fn := Try.f91) Try.func91 (by kernel_rfl) (fun _ _ => by kernel_rfl) (by kernel_rfl) (by kernel_rfl) [impl_within.c] ⟨impl_within.ok, trivial⟩
    [] { c := fun _ => none, cc := [], ms := [], tn := [], sh := false, fm := [] } rfl 5000 trivial (fun k x y => by kernel_rfl)

/-! ### loop.example/g00076/impl.isPower: function 129 -/
def impl_isPower.f (a0 : Int) : Option (Bool) := if a0 > 0 then (some (decide ((bitAnd .i64 a0 (wrap64 (a0 - 1))) = 0))) else (some false)
def impl_isPower.c : FnD := { f := 129, sh := false, ps := [.c (.int .i64)], pb := [], vc := .c (.bool), bs := [], R := Bool, fn := fun _ x y => impl_isPower.f x.1, out := fun y => (y, ()), inn := fun d => d.1, inv := fun _ => rfl }
theorem impl_isPower.ok : impl_isPower.c.OK Try.prog :=
  FnD.of impl_isPower.c mix tok (fn := Try.f129) Try.func129 (by kernel_rfl) (fun _ _ => by kernel_rfl) (by kernel_rfl) (by kernel_rfl) [] trivial
    [] { c := fun _ => none, cc := [], ms := [], tn := [], sh := false, fm := [] } rfl 5000 trivial (fun k x y => by kernel_rfl)

/-! ### loop.example/g00076/impl.isShape: function 92 -/
def impl_isShape.f (a0 : S42) : Option (Bool) := (impl_within.f a0.f0 1 16).bind fun t1 => (if t1 = true then ((impl_isPower.f a0.f0).bind fun t2 => (if t2 = true then ((impl_within.f a0.f1 1 4).bind fun t3 => (if t3 = true then ((impl_within.f a0.f2 4 32).bind fun t4 => (if t4 = true then ((impl_isPower.f a0.f2).bind fun t5 => (some t5)) else (some false))) else (some false))) else (some false))) else (some false))
def impl_isShape.c : FnD := { f := 92, sh := false, ps := [.agg T42], pb := [], vc := .c (.bool), bs := [], R := Bool, fn := fun _ x y => impl_isShape.f x.1, out := fun y => (y, ()), inn := fun d => d.1, inv := fun _ => rfl }
theorem impl_isShape.ok : impl_isShape.c.OK Try.prog :=
  FnD.of impl_isShape.c mix tok (fn := Try.f92) Try.func92 (by kernel_rfl) (fun _ _ => by kernel_rfl) (by kernel_rfl) (by kernel_rfl) [impl_within.c, impl_isPower.c] ⟨impl_within.ok, ⟨impl_isPower.ok, trivial⟩⟩
    [] { c := fun _ => none, cc := [], ms := [], tn := [], sh := false, fm := [] } rfl 5000 trivial (fun k x y => by kernel_rfl)

/-! ### loop.example/g00076/impl.areCosts: function 93 -/
def impl_areCosts.l4 : Nat → Int → Int → Int → Int → Int → Int → Int → S44 → Option (Bool)
  | 0, _, _, _, _, _, _, _, _ => none
  | k + 1, x17_0, x17_1, x17_2, x17_3, x17_4, x17_5, x18, y0 => if x18 < 6 then (if 0 ≤ x18 then (if x18 < ((6 : Nat) : Int) then ((impl_within.f (([x17_0, x17_1, x17_2, x17_3, x17_4, x17_5] : List Int).getD x18.toNat 0) 0 50).bind fun t1 => (if t1 = true then (impl_areCosts.l4 k x17_0 x17_1 x17_2 x17_3 x17_4 x17_5 (wrap64 (x18 + 1)) y0) else (some false))) else none) else none) else ((impl_within.f y0.f0 1 20).bind fun t2 => (some t2))
def impl_areCosts.f (k : Nat) (a0 : S44) : Option (Bool) := impl_areCosts.l4 k a0.f1 a0.f2 a0.f3 a0.f4 a0.f5 a0.f6 0 a0
def impl_areCosts.c : FnD := { f := 93, sh := false, ps := [.agg T44], pb := [], vc := .c (.bool), bs := [], R := Bool, fn := fun k x y => impl_areCosts.f k x.1, out := fun y => (y, ()), inn := fun d => d.1, inv := fun _ => rfl }
theorem impl_areCosts.ok : impl_areCosts.c.OK Try.prog :=
  FnD.of impl_areCosts.c mix tok (fn := Try.f93) Try.func93 (by kernel_rfl) (fun _ _ => by kernel_rfl) (by kernel_rfl) (by kernel_rfl) [impl_within.c] ⟨impl_within.ok, trivial⟩
    [{ lbl := 4, live := [(1, none), (17, none), (18, none)], ms := [], vs := [.c (.ptr 0 0), .agg [.int .i64, .int .i64, .int .i64, .int .i64, .int .i64, .int .i64], .c (.int .i64)], bs := [.cells 44 [.int .i64, .int .i64, .int .i64, .int .i64, .int .i64, .int .i64, .int .i64]], f := fun k x y => impl_areCosts.l4 k x.2.1.1 x.2.1.2.1 x.2.1.2.2.1 x.2.1.2.2.2.1 x.2.1.2.2.2.2.1 x.2.1.2.2.2.2.2.1 x.2.2.1 (y.1.1, y.1.2.1, y.1.2.2.1, y.1.2.2.2.1, y.1.2.2.2.2.1, y.1.2.2.2.2.2.1, y.1.2.2.2.2.2.2.1) }] { c := fun _ => none, cc := [], ms := [], tn := [], sh := false, fm := [] } rfl 5000 ⟨⟨fun _ _ => rfl, fun k x y => by kernel_rfl⟩, trivial⟩ (fun k x y => by kernel_rfl)

/-! ### loop.example/g00076/impl.isSpan: function 94 -/
def impl_isSpan.f (a0 : Int) : Option (Bool) := (impl_within.f a0 1 5000).bind fun t1 => (some t1)
def impl_isSpan.c : FnD := { f := 94, sh := false, ps := [.c (.int .i64)], pb := [], vc := .c (.bool), bs := [], R := Bool, fn := fun _ x y => impl_isSpan.f x.1, out := fun y => (y, ()), inn := fun d => d.1, inv := fun _ => rfl }
theorem impl_isSpan.ok : impl_isSpan.c.OK Try.prog :=
  FnD.of impl_isSpan.c mix tok (fn := Try.f94) Try.func94 (by kernel_rfl) (fun _ _ => by kernel_rfl) (by kernel_rfl) (by kernel_rfl) [impl_within.c] ⟨impl_within.ok, trivial⟩
    [] { c := fun _ => none, cc := [], ms := [], tn := [], sh := false, fm := [] } rfl 5000 trivial (fun k x y => by kernel_rfl)

/-! ### loop.example/g00076/impl.opCost: function 148 -/
def impl_opCost.f (a0 : S44) (a1 : Int) : Option (Int) := if a1 = 9 then (some (wrap64 (a0.f0 + a0.f1))) else (if a1 = 10 then (some (wrap64 (a0.f0 + a0.f1))) else ((impl_within.f a1 15 18).bind fun t1 => (if t1 = true then (some (wrap64 (a0.f0 + a0.f2))) else (if a1 ≥ 25 then (some (wrap64 (a0.f0 + a0.f5))) else (some a0.f0)))))
def impl_opCost.c : FnD := { f := 148, sh := false, ps := [.agg T44, .c (.int .i64)], pb := [], vc := .c (.int .i64), bs := [], R := Int, fn := fun _ x y => impl_opCost.f x.1 x.2.1, out := fun y => (y, ()), inn := fun d => d.1, inv := fun _ => rfl }
theorem impl_opCost.ok : impl_opCost.c.OK Try.prog :=
  FnD.of impl_opCost.c mix tok (fn := Try.f148) Try.func148 (by kernel_rfl) (fun _ _ => by kernel_rfl) (by kernel_rfl) (by kernel_rfl) [impl_within.c] ⟨impl_within.ok, trivial⟩
    [] { c := fun _ => none, cc := [], ms := [], tn := [], sh := false, fm := [] } rfl 5000 trivial (fun k x y => by kernel_rfl)

/-! ### loop.example/g00076/impl.accessCost: function 149 -/
def impl_accessCost.f (a0 : S44) (a1 : S179) : Option (Int) := if a1.f0 = true then (if a1.f1 = true then (if a1.f2 = true then (some (wrap64 (0 + a0.f6))) else (some 0)) else (if a1.f2 = true then (some (wrap64 ((wrap64 (0 + a0.f4)) + a0.f6))) else (some (wrap64 (0 + a0.f4))))) else (if a1.f1 = true then (if a1.f2 = true then (some (wrap64 ((wrap64 (0 + a0.f3)) + a0.f6))) else (some (wrap64 (0 + a0.f3)))) else (if a1.f2 = true then (some (wrap64 ((wrap64 ((wrap64 (0 + a0.f3)) + a0.f4)) + a0.f6))) else (some (wrap64 ((wrap64 (0 + a0.f3)) + a0.f4)))))
def impl_accessCost.c : FnD := { f := 149, sh := false, ps := [.agg T44, .agg T179], pb := [], vc := .c (.int .i64), bs := [], R := Int, fn := fun _ x y => impl_accessCost.f x.1 x.2.1, out := fun y => (y, ()), inn := fun d => d.1, inv := fun _ => rfl }
theorem impl_accessCost.ok : impl_accessCost.c.OK Try.prog :=
  FnD.of impl_accessCost.c mix tok (fn := Try.f149) Try.func149 (by kernel_rfl) (fun _ _ => by kernel_rfl) (by kernel_rfl) (by kernel_rfl) [] trivial
    [] { c := fun _ => none, cc := [], ms := [], tn := [], sh := false, fm := [] } rfl 5000 trivial (fun k x y => by kernel_rfl)

/-! ### loop.example/g00076/impl.WorstStep: function 130 -/
def impl_WorstStep.l10 : Nat → Int → Int → S44 → Option (Int)
  | 0, _, _, _ => none
  | k + 1, x3, x8, y0 => if x8 < 33 then ((impl_opCost.f y0 x8).bind fun t2 => (impl_WorstStep.l10 k (mx x3 t2) (wrap64 (x8 + 1)) y0)) else ((impl_accessCost.f y0 (⟨false, false, true⟩ : S179)).bind fun t3 => (some (wrap64 ((wrap64 (x3 + (wrap64 (2 * t3)))) + y0.f5))))
def impl_WorstStep.f (k : Nat) (a0 : S44) : Option (Int) := (impl_areCosts.f k a0).bind fun t1 => (if t1 = true then (impl_WorstStep.l10 k 0 0 a0) else (some (-1)))
def impl_WorstStep.c : FnD := { f := 130, sh := false, ps := [.agg T44], pb := [], vc := .c (.int .i64), bs := [], R := Int, fn := fun k x y => impl_WorstStep.f k x.1, out := fun y => (y, ()), inn := fun d => d.1, inv := fun _ => rfl }
theorem impl_WorstStep.ok : impl_WorstStep.c.OK Try.prog :=
  FnD.of impl_WorstStep.c mix tok (fn := Try.f130) Try.func130 (by kernel_rfl) (fun _ _ => by kernel_rfl) (by kernel_rfl) (by kernel_rfl) [impl_areCosts.c, impl_opCost.c, impl_accessCost.c] ⟨impl_areCosts.ok, ⟨impl_opCost.ok, ⟨impl_accessCost.ok, trivial⟩⟩⟩
    [{ lbl := 10, live := [(1, none), (3, none), (8, none)], ms := [], vs := [.c (.ptr 0 0), .c (.int .i64), .c (.int .i64)], bs := [.cells 44 [.int .i64, .int .i64, .int .i64, .int .i64, .int .i64, .int .i64, .int .i64]], f := fun k x y => impl_WorstStep.l10 k x.2.1 x.2.2.1 (y.1.1, y.1.2.1, y.1.2.2.1, y.1.2.2.2.1, y.1.2.2.2.2.1, y.1.2.2.2.2.2.1, y.1.2.2.2.2.2.2.1) }] { c := fun _ => none, cc := [], ms := [], tn := [], sh := false, fm := [] } rfl 5000 ⟨⟨fun _ _ => rfl, fun k x y => by kernel_rfl⟩, trivial⟩ (fun k x y => by kernel_rfl)

/-! ### loop.example/g00076/impl.worstStep: function 95 -/
def impl_worstStep.f (k : Nat) (a0 : S44) : Option (Int) := (impl_WorstStep.f k a0).bind fun t1 => (some t1)
def impl_worstStep.c : FnD := { f := 95, sh := false, ps := [.agg T44], pb := [], vc := .c (.int .i64), bs := [], R := Int, fn := fun k x y => impl_worstStep.f k x.1, out := fun y => (y, ()), inn := fun d => d.1, inv := fun _ => rfl }
theorem impl_worstStep.ok : impl_worstStep.c.OK Try.prog :=
  FnD.of impl_worstStep.c mix tok (fn := Try.f95) Try.func95 (by kernel_rfl) (fun _ _ => by kernel_rfl) (by kernel_rfl) (by kernel_rfl) [impl_WorstStep.c] ⟨impl_WorstStep.ok, trivial⟩
    [] { c := fun _ => none, cc := [], ms := [], tn := [], sh := false, fm := [] } rfl 5000 trivial (fun k x y => by kernel_rfl)

/-! ### loop.example/g00076/impl.isLabel: function 150 -/
def impl_isLabel.l4 : Nat → ByteArray → Int → Int → Option (Bool)
  | 0, _, _, _ => none
  | k + 1, x0, x5, x6 => if x6 < x5 then (if 0 ≤ x6 then (if x6 < (x0.size : Int) then (if (bt x0 x6) < 97 then (some false) else (if 0 ≤ x6 then (if x6 < (x0.size : Int) then (if (bt x0 x6) > 122 then (some false) else (impl_isLabel.l4 k x0 x5 (wrap64 (x6 + 1)))) else none) else none)) else none) else none) else ((impl_within.f (x0.size : Int) 1 12).bind fun t1 => (some t1))
def impl_isLabel.f (k : Nat) (a0 : ByteArray) : Option (Bool) := impl_isLabel.l4 k a0 (a0.size : Int) 0
def impl_isLabel.c : FnD := { f := 150, sh := false, ps := [.c .str], pb := [], vc := .c (.bool), bs := [], R := Bool, fn := fun k x y => impl_isLabel.f k x.1, out := fun y => (y, ()), inn := fun d => d.1, inv := fun _ => rfl }
theorem impl_isLabel.ok : impl_isLabel.c.OK Try.prog :=
  FnD.of impl_isLabel.c mix tok (fn := Try.f150) Try.func150 (by kernel_rfl) (fun _ _ => by kernel_rfl) (by kernel_rfl) (by kernel_rfl) [impl_within.c] ⟨impl_within.ok, trivial⟩
    [{ lbl := 4, live := [(0, none), (5, none), (6, none)], ms := [], vs := [.c (.str), .c (.int .i64), .c (.int .i64)], bs := [], f := fun k x y => impl_isLabel.l4 k x.1 x.2.1 x.2.2.1 }] { c := fun _ => none, cc := [], ms := [], tn := [], sh := false, fm := [] } rfl 5000 ⟨⟨fun _ _ => rfl, fun k x y => by kernel_rfl⟩, trivial⟩ (fun k x y => by kernel_rfl)

/-! ### loop.example/g00076/impl.isName: function 131 -/
def impl_isName.f (k : Nat) (a0 : ByteArray) : Option (Bool) := (impl_isLabel.f k a0).bind fun t1 => (if t1 = true then (some (decide ((a0.size : Int) ≤ 8))) else (some false))
def impl_isName.c : FnD := { f := 131, sh := false, ps := [.c .str], pb := [], vc := .c (.bool), bs := [], R := Bool, fn := fun k x y => impl_isName.f k x.1, out := fun y => (y, ()), inn := fun d => d.1, inv := fun _ => rfl }
theorem impl_isName.ok : impl_isName.c.OK Try.prog :=
  FnD.of impl_isName.c mix tok (fn := Try.f131) Try.func131 (by kernel_rfl) (fun _ _ => by kernel_rfl) (by kernel_rfl) (by kernel_rfl) [impl_isLabel.c] ⟨impl_isLabel.ok, trivial⟩
    [] { c := fun _ => none, cc := [], ms := [], tn := [], sh := false, fm := [] } rfl 5000 trivial (fun k x y => by kernel_rfl)

/-! ### loop.example/g00076/impl.partNamed$1: function 152 -/
def impl_partNamed_1.f (a0 : S75) (c1 : ByteArray) : Option (Bool) := some (decide (a0.f0 = c1))
def impl_partNamed_1.c : FnD := { f := 152, sh := false, ps := [.agg T75, .cap .str], pb := [], vc := .c (.bool), bs := [], R := Bool, fn := fun _ x y => impl_partNamed_1.f x.1 x.2.1, out := fun y => (y, ()), inn := fun d => d.1, inv := fun _ => rfl }
theorem impl_partNamed_1.ok : impl_partNamed_1.c.OK Try.prog :=
  FnD.of impl_partNamed_1.c mix tok (fn := Try.f152) Try.func152 (by kernel_rfl) (fun _ _ => by kernel_rfl) (by kernel_rfl) (by kernel_rfl) [] trivial
    [] { c := fun _ => none, cc := [], ms := [], tn := [], sh := false, fm := [] } rfl 5000 trivial (fun k x y => by kernel_rfl)

/-! ### slices.IndexFunc[[]loop.example/g00076/impl.PartRow,loop.example/g00076/impl.PartRow]: function 151 -/
def slices_IndexFunc_151_152.l4 : Nat → (List S75) → ByteArray → Int → Int → Option (Int)
  | 0, _, _, _, _ => none
  | k + 1, x0, x1_0, x7, x8 => if x8 < x7 then (if 0 ≤ x8 then (if x8 < (x0.length : Int) then ((impl_partNamed_1.f (rd_T75 x0 x8) x1_0).bind fun t1 => (if t1 = true then (some x8) else (slices_IndexFunc_151_152.l4 k x0 x1_0 x7 (wrap64 (x8 + 1))))) else none) else none) else (some (-1))
def slices_IndexFunc_151_152.f (k : Nat) (a0 : List S75) (p1_0 : ByteArray) : Option (Int) := slices_IndexFunc_151_152.l4 k a0 p1_0 (a0.length : Int) 0
def slices_IndexFunc_151_152.c : FnD := { f := 151, sh := false, ps := [.c (.sl T75), .fn 152 [.str]], pb := [], vc := .c (.int .i64), bs := [], R := Int, fn := fun k x y => slices_IndexFunc_151_152.f k x.1 x.2.1.1, out := fun y => (y, ()), inn := fun d => d.1, inv := fun _ => rfl }
theorem slices_IndexFunc_151_152.ok : slices_IndexFunc_151_152.c.OK Try.prog :=
  FnD.of slices_IndexFunc_151_152.c mix tok (fn := Try.f151) Try.func151 (by kernel_rfl) (fun _ _ => by kernel_rfl) (by kernel_rfl) (by kernel_rfl) [impl_partNamed_1.c] ⟨impl_partNamed_1.ok, trivial⟩
    [{ lbl := 4, live := [(0, none), (1, none), (7, none), (8, none)], ms := [], vs := [.c (.sl false T75), .c (.fn 152 [.str]), .c (.int .i64), .c (.int .i64)], bs := [], f := fun k x y => slices_IndexFunc_151_152.l4 k x.1 x.2.1.1 x.2.2.1 x.2.2.2.1 }] { c := fun _ => none, cc := [], ms := [], tn := [], sh := false, fm := [] } rfl 5000 ⟨⟨fun _ _ => rfl, fun k x y => by kernel_rfl⟩, trivial⟩ (fun k x y => by kernel_rfl)

/-! ### loop.example/g00076/impl.partNamed: function 132 -/
def impl_partNamed.f (k : Nat) (a0 : S50) (a1 : ByteArray) : Option (Int) := (slices_IndexFunc_151_152.f k a0.f7 a1).bind fun t1 => (some t1)
def impl_partNamed.c : FnD := { f := 132, sh := false, ps := [.agg T50, .c .str], pb := [], vc := .c (.int .i64), bs := [], R := Int, fn := fun k x y => impl_partNamed.f k x.1 x.2.1, out := fun y => (y, ()), inn := fun d => d.1, inv := fun _ => rfl }
theorem impl_partNamed.ok : impl_partNamed.c.OK Try.prog :=
  FnD.of impl_partNamed.c mix tok (fn := Try.f132) Try.func132 (by kernel_rfl) (fun _ _ => by kernel_rfl) (by kernel_rfl) (by kernel_rfl) [slices_IndexFunc_151_152.c] ⟨slices_IndexFunc_151_152.ok, trivial⟩
    [] { c := fun _ => none, cc := [], ms := [], tn := [], sh := false, fm := [] } rfl 5000 trivial (fun k x y => by kernel_rfl)

/-! ### loop.example/g00076/impl.isPolicy: function 133 -/
def impl_isPolicy.f (a0 : S73) : Option (Bool) := if a0.f0 = 1 then ((impl_within.f a0.f1 0 100).bind fun t1 => (some t1)) else (if a0.f0 = 0 then (some (decide (a0.f1 = 0))) else (if a0.f0 = 2 then (some (decide (a0.f1 = 0))) else (some false)))
def impl_isPolicy.c : FnD := { f := 133, sh := false, ps := [.agg T73], pb := [], vc := .c (.bool), bs := [], R := Bool, fn := fun _ x y => impl_isPolicy.f x.1, out := fun y => (y, ()), inn := fun d => d.1, inv := fun _ => rfl }
theorem impl_isPolicy.ok : impl_isPolicy.c.OK Try.prog :=
  FnD.of impl_isPolicy.c mix tok (fn := Try.f133) Try.func133 (by kernel_rfl) (fun _ _ => by kernel_rfl) (by kernel_rfl) (by kernel_rfl) [impl_within.c] ⟨impl_within.ok, trivial⟩
    [] { c := fun _ => none, cc := [], ms := [], tn := [], sh := false, fm := [] } rfl 5000 trivial (fun k x y => by kernel_rfl)

/-! ### loop.example/g00076/impl.isWindow: function 76 -/
def impl_isWindow.f (a0 : S40) : Option (Bool) := (impl_within.f a0.f1 4 2048).bind fun t1 => (if t1 = true then (if (Int.tmod a0.f1 4) = 0 then ((impl_within.f a0.f0 0 (wrap64 (2048 - a0.f1))).bind fun t2 => (if t2 = true then (if (Int.tmod a0.f0 4) = 0 then ((impl_within.f a0.f2 1 7).bind fun t3 => (some t3)) else (some false)) else (some false))) else (some false)) else (some false))
def impl_isWindow.c : FnD := { f := 76, sh := false, ps := [.agg T40], pb := [], vc := .c (.bool), bs := [], R := Bool, fn := fun _ x y => impl_isWindow.f x.1, out := fun y => (y, ()), inn := fun d => d.1, inv := fun _ => rfl }
theorem impl_isWindow.ok : impl_isWindow.c.OK Try.prog :=
  FnD.of impl_isWindow.c mix tok (fn := Try.f76) Try.func76 (by kernel_rfl) (fun _ _ => by kernel_rfl) (by kernel_rfl) (by kernel_rfl) [impl_within.c] ⟨impl_within.ok, trivial⟩
    [] { c := fun _ => none, cc := [], ms := [], tn := [], sh := false, fm := [] } rfl 5000 trivial (fun k x y => by kernel_rfl)

/-! ### loop.example/g00076/impl.areApart: function 79 -/
def impl_areApart.f (a0 : S40) (a1 : S40) : Option (Bool) := if (wrap64 (a0.f0 + a0.f1)) ≤ a1.f0 then (some true) else (some (decide ((wrap64 (a1.f0 + a1.f1)) ≤ a0.f0)))
def impl_areApart.c : FnD := { f := 79, sh := false, ps := [.agg T40, .agg T40], pb := [], vc := .c (.bool), bs := [], R := Bool, fn := fun _ x y => impl_areApart.f x.1 x.2.1, out := fun y => (y, ()), inn := fun d => d.1, inv := fun _ => rfl }
theorem impl_areApart.ok : impl_areApart.c.OK Try.prog :=
  FnD.of impl_areApart.c mix tok (fn := Try.f79) Try.func79 (by kernel_rfl) (fun _ _ => by kernel_rfl) (by kernel_rfl) (by kernel_rfl) [] trivial
    [] { c := fun _ => none, cc := [], ms := [], tn := [], sh := false, fm := [] } rfl 5000 trivial (fun k x y => by kernel_rfl)

/-! ### loop.example/g00076/impl.areParts$1: function 134 -/
def impl_areParts_1.f (a0 : S40) (c1 : S40) : Option (Bool) := (impl_areApart.f a0 c1).bind fun t1 => (some (!t1))
def impl_areParts_1.c : FnD := { f := 134, sh := false, ps := [.agg T40, .cap T40], pb := [], vc := .c (.bool), bs := [], R := Bool, fn := fun _ x y => impl_areParts_1.f x.1 x.2.1, out := fun y => (y, ()), inn := fun d => d.1, inv := fun _ => rfl }
theorem impl_areParts_1.ok : impl_areParts_1.c.OK Try.prog :=
  FnD.of impl_areParts_1.c mix tok (fn := Try.f134) Try.func134 (by kernel_rfl) (fun _ _ => by kernel_rfl) (by kernel_rfl) (by kernel_rfl) [impl_areApart.c] ⟨impl_areApart.ok, trivial⟩
    [] { c := fun _ => none, cc := [], ms := [], tn := [], sh := false, fm := [] } rfl 5000 trivial (fun k x y => by kernel_rfl)

/-! ### slices.IndexFunc[[]loop.example/g00076/impl.Window,loop.example/g00076/impl.Window]: function 118 -/
def slices_IndexFunc_118_134.l4 : Nat → (List S40) → S40 → Int → Int → Option (Int)
  | 0, _, _, _, _ => none
  | k + 1, x0, x1_0, x7, x8 => if x8 < x7 then (if 0 ≤ x8 then (if x8 < (x0.length : Int) then ((impl_areParts_1.f (rd_T40 x0 x8) x1_0).bind fun t1 => (if t1 = true then (some x8) else (slices_IndexFunc_118_134.l4 k x0 x1_0 x7 (wrap64 (x8 + 1))))) else none) else none) else (some (-1))
def slices_IndexFunc_118_134.f (k : Nat) (a0 : List S40) (p1_0 : S40) : Option (Int) := slices_IndexFunc_118_134.l4 k a0 p1_0 (a0.length : Int) 0
def slices_IndexFunc_118_134.c : FnD := { f := 118, sh := false, ps := [.c (.sl T40), .fn 134 [T40]], pb := [], vc := .c (.int .i64), bs := [], R := Int, fn := fun k x y => slices_IndexFunc_118_134.f k x.1 x.2.1.1, out := fun y => (y, ()), inn := fun d => d.1, inv := fun _ => rfl }
theorem slices_IndexFunc_118_134.ok : slices_IndexFunc_118_134.c.OK Try.prog :=
  FnD.of slices_IndexFunc_118_134.c mix tok (fn := Try.f118) Try.func118 (by kernel_rfl) (fun _ _ => by kernel_rfl) (by kernel_rfl) (by kernel_rfl) [impl_areParts_1.c] ⟨impl_areParts_1.ok, trivial⟩
    [{ lbl := 4, live := [(0, none), (1, none), (7, none), (8, none)], ms := [], vs := [.c (.sl false T40), .c (.fn 134 [T40]), .c (.int .i64), .c (.int .i64)], bs := [], f := fun k x y => slices_IndexFunc_118_134.l4 k x.1 x.2.1.1 x.2.2.1 x.2.2.2.1 }] { c := fun _ => none, cc := [], ms := [], tn := [], sh := false, fm := [] } rfl 5000 ⟨⟨fun _ _ => rfl, fun k x y => by kernel_rfl⟩, trivial⟩ (fun k x y => by kernel_rfl)

/-! ### slices.ContainsFunc[[]loop.example/g00076/impl.Window,loop.example/g00076/impl.Window]: function 77 -/
def slices_ContainsFunc_77_134.f (k : Nat) (a0 : List S40) (p1_0 : S40) : Option (Bool) := (slices_IndexFunc_118_134.f k a0 p1_0).bind fun t1 => (some (decide (t1 ≥ 0)))
def slices_ContainsFunc_77_134.c : FnD := { f := 77, sh := false, ps := [.c (.sl T40), .fn 134 [T40]], pb := [], vc := .c (.bool), bs := [], R := Bool, fn := fun k x y => slices_ContainsFunc_77_134.f k x.1 x.2.1.1, out := fun y => (y, ()), inn := fun d => d.1, inv := fun _ => rfl }
theorem slices_ContainsFunc_77_134.ok : slices_ContainsFunc_77_134.c.OK Try.prog :=
  FnD.of slices_ContainsFunc_77_134.c mix tok (fn := Try.f77) Try.func77 (by kernel_rfl) (fun _ _ => by kernel_rfl) (by kernel_rfl) (by kernel_rfl) [slices_IndexFunc_118_134.c] ⟨slices_IndexFunc_118_134.ok, trivial⟩
    [] { c := fun _ => none, cc := [], ms := [], tn := [], sh := false, fm := [] } rfl 5000 trivial (fun k x y => by kernel_rfl)

/-! ### loop.example/g00076/impl.windowAt$1: function 119 -/
def impl_windowAt_1.f (a0 : S40) (c1 : Int) : Option (Bool) := if a0.f0 ≤ c1 then (some (decide (c1 < (wrap64 (a0.f0 + a0.f1))))) else (some false)
def impl_windowAt_1.c : FnD := { f := 119, sh := false, ps := [.agg T40, .cap (.int .i64)], pb := [], vc := .c (.bool), bs := [], R := Bool, fn := fun _ x y => impl_windowAt_1.f x.1 x.2.1, out := fun y => (y, ()), inn := fun d => d.1, inv := fun _ => rfl }
theorem impl_windowAt_1.ok : impl_windowAt_1.c.OK Try.prog :=
  FnD.of impl_windowAt_1.c mix tok (fn := Try.f119) Try.func119 (by kernel_rfl) (fun _ _ => by kernel_rfl) (by kernel_rfl) (by kernel_rfl) [] trivial
    [] { c := fun _ => none, cc := [], ms := [], tn := [], sh := false, fm := [] } rfl 5000 trivial (fun k x y => by kernel_rfl)

/-! ### slices.IndexFunc[[]loop.example/g00076/impl.Window,loop.example/g00076/impl.Window]: function 118 -/
def slices_IndexFunc_118_119.l4 : Nat → (List S40) → Int → Int → Int → Option (Int)
  | 0, _, _, _, _ => none
  | k + 1, x0, x1_0, x7, x8 => if x8 < x7 then (if 0 ≤ x8 then (if x8 < (x0.length : Int) then ((impl_windowAt_1.f (rd_T40 x0 x8) x1_0).bind fun t1 => (if t1 = true then (some x8) else (slices_IndexFunc_118_119.l4 k x0 x1_0 x7 (wrap64 (x8 + 1))))) else none) else none) else (some (-1))
def slices_IndexFunc_118_119.f (k : Nat) (a0 : List S40) (p1_0 : Int) : Option (Int) := slices_IndexFunc_118_119.l4 k a0 p1_0 (a0.length : Int) 0
def slices_IndexFunc_118_119.c : FnD := { f := 118, sh := false, ps := [.c (.sl T40), .fn 119 [(.int .i64)]], pb := [], vc := .c (.int .i64), bs := [], R := Int, fn := fun k x y => slices_IndexFunc_118_119.f k x.1 x.2.1.1, out := fun y => (y, ()), inn := fun d => d.1, inv := fun _ => rfl }
theorem slices_IndexFunc_118_119.ok : slices_IndexFunc_118_119.c.OK Try.prog :=
  FnD.of slices_IndexFunc_118_119.c mix tok (fn := Try.f118) Try.func118 (by kernel_rfl) (fun _ _ => by kernel_rfl) (by kernel_rfl) (by kernel_rfl) [impl_windowAt_1.c] ⟨impl_windowAt_1.ok, trivial⟩
    [{ lbl := 4, live := [(0, none), (1, none), (7, none), (8, none)], ms := [], vs := [.c (.sl false T40), .c (.fn 119 [(.int .i64)]), .c (.int .i64), .c (.int .i64)], bs := [], f := fun k x y => slices_IndexFunc_118_119.l4 k x.1 x.2.1.1 x.2.2.1 x.2.2.2.1 }] { c := fun _ => none, cc := [], ms := [], tn := [], sh := false, fm := [] } rfl 5000 ⟨⟨fun _ _ => rfl, fun k x y => by kernel_rfl⟩, trivial⟩ (fun k x y => by kernel_rfl)

/-! ### loop.example/g00076/impl.windowAt: function 74 -/
def impl_windowAt.f (k : Nat) (a0 : List S40) (a1 : Int) : Option (Int) := (slices_IndexFunc_118_119.f k a0 a1).bind fun t1 => (some t1)
def impl_windowAt.c : FnD := { f := 74, sh := false, ps := [.c (.sl T40), .c (.int .i64)], pb := [], vc := .c (.int .i64), bs := [], R := Int, fn := fun k x y => impl_windowAt.f k x.1 x.2.1, out := fun y => (y, ()), inn := fun d => d.1, inv := fun _ => rfl }
theorem impl_windowAt.ok : impl_windowAt.c.OK Try.prog :=
  FnD.of impl_windowAt.c mix tok (fn := Try.f74) Try.func74 (by kernel_rfl) (fun _ _ => by kernel_rfl) (by kernel_rfl) (by kernel_rfl) [slices_IndexFunc_118_119.c] ⟨slices_IndexFunc_118_119.ok, trivial⟩
    [] { c := fun _ => none, cc := [], ms := [], tn := [], sh := false, fm := [] } rfl 5000 trivial (fun k x y => by kernel_rfl)

/-! ### loop.example/g00076/impl.runsAt: function 135 -/
def impl_runsAt.f (k : Nat) (a0 : S75) (a1 : Int) : Option (Bool) := (impl_windowAt.f k a0.f3 a1).bind fun t1 => (if t1 ≥ 0 then (if 0 ≤ t1 then (if t1 < (a0.f3.length : Int) then (some (!(decide ((bitAnd .i64 ((rd_T40 a0.f3 t1).f2) 4) = 0)))) else none) else none) else (some false))
def impl_runsAt.c : FnD := { f := 135, sh := false, ps := [.agg T75, .c (.int .i64)], pb := [], vc := .c (.bool), bs := [], R := Bool, fn := fun k x y => impl_runsAt.f k x.1 x.2.1, out := fun y => (y, ()), inn := fun d => d.1, inv := fun _ => rfl }
theorem impl_runsAt.ok : impl_runsAt.c.OK Try.prog :=
  FnD.of impl_runsAt.c mix tok (fn := Try.f135) Try.func135 (by kernel_rfl) (fun _ _ => by kernel_rfl) (by kernel_rfl) (by kernel_rfl) [impl_windowAt.c] ⟨impl_windowAt.ok, trivial⟩
    [] { c := fun _ => none, cc := [], ms := [], tn := [], sh := false, fm := [] } rfl 5000 trivial (fun k x y => by kernel_rfl)

end
end Go.Proofs.Ytgnhojiogkeepaa.PSp
