/- Go functions as Lean functions, each with its contract. -/
import Derived.Test.YtgnhojiogkeepaaQLox3
set_option linter.unusedVariables false
set_option maxRecDepth 100000
namespace Go.Proofs.Ytgnhojiogkeepaa.PLo
open Go Go.Proofs Go.RowKit Go.Proofs.Ytgnhojiogkeepaa.V
noncomputable section
/-! ### loop.example/g00076/spec.l13Chans: function 88 -/
mutual
def spec_l13Chans.l8 : Nat → Int → S50 → Option (Bool)
  | 0, _, _ => none
  | k + 1, x3, y0 => if x3 < (y0.f8.length : Int) then (if 0 ≤ x3 then (if x3 < (y0.f8.length : Int) then ((spec_l01In.f (rd y0.f8 x3) 0 (wrap64 ((y0.f7.length : Int) - 1))).bind fun t1 => (if t1 = true then (spec_l13Chans.l8 k (wrap64 (x3 + 1)) y0) else (some false))) else none) else none) else (spec_l13Chans.l18 k 0 y0)
def spec_l13Chans.l18 : Nat → Int → S50 → Option (Bool)
  | 0, _, _ => none
  | k + 1, x4, y0 => if x4 < (y0.f9.length : Int) then (if 0 ≤ x4 then (if x4 < (y0.f9.length : Int) then ((spec_ChanOk.f (rd_T117 y0.f9 x4)).bind fun t2 => (if t2 = true then (if 0 ≤ x4 then (if x4 < (y0.f9.length : Int) then (if (rd_T117 y0.f9 x4).f1 ≥ (y0.f7.length : Int) then (some false) else (if 0 ≤ x4 then (if x4 < (y0.f9.length : Int) then (if (rd_T117 y0.f9 x4).f2 ≥ (y0.f7.length : Int) then (some false) else (spec_l13Chans.l18 k (wrap64 (x4 + 1)) y0)) else none) else none)) else none) else none) else (some false))) else none) else none) else ((spec_WorstPad.f k y0.f3 y0.f1 y0.f9).bind fun t3 => (some (decide (y0.f4 ≥ t3))))
end
def spec_l13Chans.f (k : Nat) (a0 : S50) : Option (Bool) := if (a0.f8.length : Int) > 8 then (some false) else (if (a0.f9.length : Int) > 8 then (some false) else (spec_l13Chans.l8 k 0 a0))
def spec_l13Chans.c : FnD := { f := 88, sh := false, ps := [.agg T50], pb := [], vc := .c (.bool), bs := [], R := Bool, fn := fun k x y => spec_l13Chans.f k x.1, out := fun y => (y, ()), inn := fun d => d.1, inv := fun _ => rfl }
theorem spec_l13Chans.ok : spec_l13Chans.c.OK Try.prog :=
  FnD.of spec_l13Chans.c mix tok (fn := Try.f88) Try.func88 (by kernel_rfl) (fun _ _ => by kernel_rfl) (by kernel_rfl) (by kernel_rfl) [spec_l01In.c, spec_ChanOk.c, spec_WorstPad.c] ⟨spec_l01In.ok, ⟨spec_ChanOk.ok, ⟨spec_WorstPad.ok, trivial⟩⟩⟩
    [{ lbl := 8, live := [(1, none), (3, none)], ms := [], vs := [.c (.ptr 0 0), .c (.int .i64)], bs := [.cells 50 [.int .i64, .int .i64, .int .i64, .int .i64, .int .i64, .int .i64, .int .i64, .int .i64, .int .i64, .int .i64, .int .i64, .int .i64, .int .i64, .int .i64, .int .i64, .sl false T75, .sl false (.int .i64), .sl false T117, .sl false T86]], f := fun k x y => spec_l13Chans.l8 k x.2.1 (y.1.1, (y.1.2.1, y.1.2.2.1, y.1.2.2.2.1), y.1.2.2.2.2.1, (y.1.2.2.2.2.2.1, y.1.2.2.2.2.2.2.1, y.1.2.2.2.2.2.2.2.1, y.1.2.2.2.2.2.2.2.2.1, y.1.2.2.2.2.2.2.2.2.2.1, y.1.2.2.2.2.2.2.2.2.2.2.1, y.1.2.2.2.2.2.2.2.2.2.2.2.1), y.1.2.2.2.2.2.2.2.2.2.2.2.2.1, y.1.2.2.2.2.2.2.2.2.2.2.2.2.2.1, y.1.2.2.2.2.2.2.2.2.2.2.2.2.2.2.1, y.1.2.2.2.2.2.2.2.2.2.2.2.2.2.2.2.1, y.1.2.2.2.2.2.2.2.2.2.2.2.2.2.2.2.2.1, y.1.2.2.2.2.2.2.2.2.2.2.2.2.2.2.2.2.2.1, y.1.2.2.2.2.2.2.2.2.2.2.2.2.2.2.2.2.2.2.1) },
      { lbl := 18, live := [(1, none), (4, none)], ms := [], vs := [.c (.ptr 0 0), .c (.int .i64)], bs := [.cells 50 [.int .i64, .int .i64, .int .i64, .int .i64, .int .i64, .int .i64, .int .i64, .int .i64, .int .i64, .int .i64, .int .i64, .int .i64, .int .i64, .int .i64, .int .i64, .sl false T75, .sl false (.int .i64), .sl false T117, .sl false T86]], f := fun k x y => spec_l13Chans.l18 k x.2.1 (y.1.1, (y.1.2.1, y.1.2.2.1, y.1.2.2.2.1), y.1.2.2.2.2.1, (y.1.2.2.2.2.2.1, y.1.2.2.2.2.2.2.1, y.1.2.2.2.2.2.2.2.1, y.1.2.2.2.2.2.2.2.2.1, y.1.2.2.2.2.2.2.2.2.2.1, y.1.2.2.2.2.2.2.2.2.2.2.1, y.1.2.2.2.2.2.2.2.2.2.2.2.1), y.1.2.2.2.2.2.2.2.2.2.2.2.2.1, y.1.2.2.2.2.2.2.2.2.2.2.2.2.2.1, y.1.2.2.2.2.2.2.2.2.2.2.2.2.2.2.1, y.1.2.2.2.2.2.2.2.2.2.2.2.2.2.2.2.1, y.1.2.2.2.2.2.2.2.2.2.2.2.2.2.2.2.2.1, y.1.2.2.2.2.2.2.2.2.2.2.2.2.2.2.2.2.2.1, y.1.2.2.2.2.2.2.2.2.2.2.2.2.2.2.2.2.2.2.1) }] { c := fun _ => none, cc := [], ms := [], tn := [], sh := false, fm := [] } rfl 5000 ⟨⟨fun _ _ => rfl, fun k x y => by kernel_rfl⟩, ⟨⟨fun _ _ => rfl, fun k x y => by kernel_rfl⟩, trivial⟩⟩ (fun k x y => by kernel_rfl)

/-! ### loop.example/g00076/spec.l13Slots: function 89 -/
def spec_l13Slots.l10 : Nat → Int → Int → S50 → Option (Bool)
  | 0, _, _, _ => none
  | k + 1, x3, x4, y0 => if x4 < (y0.f10.length : Int) then (if 0 ≤ x4 then (if x4 < (y0.f10.length : Int) then ((spec_l01In.f ((rd_T86 y0.f10 x4).f0) 0 (wrap64 ((y0.f7.length : Int) - 1))).bind fun t2 => (if t2 = true then ((spec_l01In.f ((rd_T86 y0.f10 x4).f1) x3 5000).bind fun t3 => (if t3 = true then ((spec_l01In.f ((rd_T86 y0.f10 x4).f2) (wrap64 ((wrap64 (y0.f4 + y0.f5)) + 1)) 5000).bind fun t4 => (if t4 = true then (if (wrap64 (((rd_T86 y0.f10 x4).f1) + ((rd_T86 y0.f10 x4).f2))) > y0.f6 then (some false) else (spec_l13Slots.l10 k (wrap64 (((rd_T86 y0.f10 x4).f1) + ((rd_T86 y0.f10 x4).f2))) (wrap64 (x4 + 1)) y0)) else (some false))) else (some false))) else (some false))) else none) else none) else (some true)
def spec_l13Slots.f (k : Nat) (a0 : S50) : Option (Bool) := (spec_l01In.f (a0.f10.length : Int) 1 16).bind fun t1 => (if t1 = true then (spec_l13Slots.l10 k 0 0 a0) else (some false))
def spec_l13Slots.c : FnD := { f := 89, sh := false, ps := [.agg T50], pb := [], vc := .c (.bool), bs := [], R := Bool, fn := fun k x y => spec_l13Slots.f k x.1, out := fun y => (y, ()), inn := fun d => d.1, inv := fun _ => rfl }
theorem spec_l13Slots.ok : spec_l13Slots.c.OK Try.prog :=
  FnD.of spec_l13Slots.c mix tok (fn := Try.f89) Try.func89 (by kernel_rfl) (fun _ _ => by kernel_rfl) (by kernel_rfl) (by kernel_rfl) [spec_l01In.c] ⟨spec_l01In.ok, trivial⟩
    [{ lbl := 10, live := [(1, none), (3, none), (4, none)], ms := [], vs := [.c (.ptr 0 0), .c (.int .i64), .c (.int .i64)], bs := [.cells 50 [.int .i64, .int .i64, .int .i64, .int .i64, .int .i64, .int .i64, .int .i64, .int .i64, .int .i64, .int .i64, .int .i64, .int .i64, .int .i64, .int .i64, .int .i64, .sl false T75, .sl false (.int .i64), .sl false T117, .sl false T86]], f := fun k x y => spec_l13Slots.l10 k x.2.1 x.2.2.1 (y.1.1, (y.1.2.1, y.1.2.2.1, y.1.2.2.2.1), y.1.2.2.2.2.1, (y.1.2.2.2.2.2.1, y.1.2.2.2.2.2.2.1, y.1.2.2.2.2.2.2.2.1, y.1.2.2.2.2.2.2.2.2.1, y.1.2.2.2.2.2.2.2.2.2.1, y.1.2.2.2.2.2.2.2.2.2.2.1, y.1.2.2.2.2.2.2.2.2.2.2.2.1), y.1.2.2.2.2.2.2.2.2.2.2.2.2.1, y.1.2.2.2.2.2.2.2.2.2.2.2.2.2.1, y.1.2.2.2.2.2.2.2.2.2.2.2.2.2.2.1, y.1.2.2.2.2.2.2.2.2.2.2.2.2.2.2.2.1, y.1.2.2.2.2.2.2.2.2.2.2.2.2.2.2.2.2.1, y.1.2.2.2.2.2.2.2.2.2.2.2.2.2.2.2.2.2.1, y.1.2.2.2.2.2.2.2.2.2.2.2.2.2.2.2.2.2.2.1) }] { c := fun _ => none, cc := [], ms := [], tn := [], sh := false, fm := [] } rfl 5000 ⟨⟨fun _ _ => rfl, fun k x y => by kernel_rfl⟩, trivial⟩ (fun k x y => by kernel_rfl)

/-! ### loop.example/g00076/spec.Sound: function 51 -/
def spec_Sound.f (k : Nat) (a0 : S50) : Option (Bool) := (spec_l13Head.f k a0).bind fun t1 => (if t1 = true then ((spec_l13Parts.f k a0).bind fun t2 => (if t2 = true then ((spec_l13Chans.f k a0).bind fun t3 => (if t3 = true then ((spec_l13Slots.f k a0).bind fun t4 => (some t4)) else (some false))) else (some false))) else (some false))
def spec_Sound.c : FnD := { f := 51, sh := false, ps := [.agg T50], pb := [], vc := .c (.bool), bs := [], R := Bool, fn := fun k x y => spec_Sound.f k x.1, out := fun y => (y, ()), inn := fun d => d.1, inv := fun _ => rfl }
theorem spec_Sound.ok : spec_Sound.c.OK Try.prog :=
  FnD.of spec_Sound.c mix tok (fn := Try.f51) Try.func51 (by kernel_rfl) (fun _ _ => by kernel_rfl) (by kernel_rfl) (by kernel_rfl) [spec_l13Head.c, spec_l13Parts.c, spec_l13Chans.c, spec_l13Slots.c] ⟨spec_l13Head.ok, ⟨spec_l13Parts.ok, ⟨spec_l13Chans.ok, ⟨spec_l13Slots.ok, trivial⟩⟩⟩⟩
    [] { c := fun _ => none, cc := [], ms := [], tn := [], sh := false, fm := [] } rfl 5000 trivial (fun k x y => by kernel_rfl)

/-! ### loop.example/g00076/spec.l07At: function 53 -/
def spec_l07At.l4 : Nat → (List S40) → Int → Int → Option (Int)
  | 0, _, _, _ => none
  | k + 1, x0, x1, x5 => if x5 < (x0.length : Int) then (if 0 ≤ x5 then (if x5 < (x0.length : Int) then ((spec_l07Has.f (rd_T40 x0 x5) x1).bind fun t1 => (if t1 = true then (some x5) else (spec_l07At.l4 k x0 x1 (wrap64 (x5 + 1))))) else none) else none) else (some (-1))
def spec_l07At.f (k : Nat) (a0 : List S40) (a1 : Int) : Option (Int) := spec_l07At.l4 k a0 a1 0
def spec_l07At.c : FnD := { f := 53, sh := false, ps := [.c (.sl T40), .c (.int .i64)], pb := [], vc := .c (.int .i64), bs := [], R := Int, fn := fun k x y => spec_l07At.f k x.1 x.2.1, out := fun y => (y, ()), inn := fun d => d.1, inv := fun _ => rfl }
theorem spec_l07At.ok : spec_l07At.c.OK Try.prog :=
  FnD.of spec_l07At.c mix tok (fn := Try.f53) Try.func53 (by kernel_rfl) (fun _ _ => by kernel_rfl) (by kernel_rfl) (by kernel_rfl) [spec_l07Has.c] ⟨spec_l07Has.ok, trivial⟩
    [{ lbl := 4, live := [(0, none), (1, none), (5, none)], ms := [], vs := [.c (.sl false T40), .c (.int .i64), .c (.int .i64)], bs := [], f := fun k x y => spec_l07At.l4 k x.1 x.2.1 x.2.2.1 }] { c := fun _ => none, cc := [], ms := [], tn := [], sh := false, fm := [] } rfl 5000 ⟨⟨fun _ _ => rfl, fun k x y => by kernel_rfl⟩, trivial⟩ (fun k x y => by kernel_rfl)

/-! ### loop.example/g00076/spec.BytesOf: function 54 -/
def spec_BytesOf.f (a0 : Int) : Option ((List Int)) := some ([(IntKind.wrap .u8 ((Int.tmod (wrap64 (a0)) 256))), (IntKind.wrap .u8 ((Int.tmod (wrap64 (Int.tdiv (wrap64 (a0)) 256)) 256))), (IntKind.wrap .u8 ((Int.tmod (wrap64 (Int.tdiv (wrap64 (a0)) 65536)) 256))), (IntKind.wrap .u8 ((wrap64 (Int.tdiv (wrap64 (a0)) 16777216))))] : List Int)
def spec_BytesOf.c : FnD := { f := 54, sh := false, ps := [.c (.int .u32)], pb := [], vc := .c (.own 0), bs := [.arr (.int .u8) .un], R := (List Int), fn := fun _ x y => spec_BytesOf.f x.1, out := fun y => ((), (y, ())), inn := fun d => d.2.1, inv := fun _ => rfl }
theorem spec_BytesOf.ok : spec_BytesOf.c.OK Try.prog :=
  FnD.of spec_BytesOf.c mix tok (fn := Try.f54) Try.func54 (by kernel_rfl) (fun _ _ => by kernel_rfl) (by kernel_rfl) (by kernel_rfl) [] trivial
    [] { c := fun _ => none, cc := [], ms := [], tn := [], sh := false, fm := [] } rfl 5000 trivial (fun k x y => by kernel_rfl)

/-! ### loop.example/g00076/spec.LoadImage: function 16 -/
mutual
def spec_LoadImage.l20 : Nat → (List Int) → (List S40) → Int → Int → Int → (List (List Int)) → Option ((List (List Int)) × Bool)
  | 0, _, _, _, _, _, _ => none
  | k + 1, x2, x9, x10, x11, x12, h0 => if x12 < (x9.length : Int) then (spec_LoadImage.l28 k x2 x9 x10 x11 x12 0 h0 ([] : List Int)) else (some (h0, true))
def spec_LoadImage.l28 : Nat → (List Int) → (List S40) → Int → Int → Int → Int → (List (List Int)) → (List Int) → Option ((List (List Int)) × Bool)
  | 0, _, _, _, _, _, _, _, _ => none
  | k + 1, x2, x9, x10, x11, x12, x14, h0, h1 => if 0 ≤ x12 then (if x12 < (x9.length : Int) then (if x14 < (rd_T40 x9 x12).f1 then (spec_LoadImage.l33 k x2 x9 x10 x11 x12 x14 h0 h1) else (if h0.length + ([h1] : List (List Int)).length < 5864062014805 then (spec_LoadImage.l20 k x2 x9 x10 x11 (wrap64 (x12 + 1)) (h0 ++ ([h1] : List (List Int)))) else none)) else none) else none
def spec_LoadImage.l33 : Nat → (List Int) → (List S40) → Int → Int → Int → Int → (List (List Int)) → (List Int) → Option ((List (List Int)) × Bool)
  | 0, _, _, _, _, _, _, _, _ => none
  | k + 1, x2, x9, x10, x11, x12, x14, h0, h1 => if 0 ≤ x12 then (if x12 < (x9.length : Int) then (spec_LoadImage.l35 k x2 x9 x10 x11 x12 x14 (wrap64 ((wrap64 (((rd_T40 x9 x12).f0) + x14)) - x10)) h0 h1) else none) else none
def spec_LoadImage.l35 : Nat → (List Int) → (List S40) → Int → Int → Int → Int → Int → (List (List Int)) → (List Int) → Option ((List (List Int)) × Bool)
  | 0, _, _, _, _, _, _, _, _, _ => none
  | k + 1, x2, x9, x10, x11, x12, x14, x15, h0, h1 => if x12 = x11 then (if x15 ≥ 0 then (if x15 < (wrap64 (4 * (lenZ x2))) then (spec_LoadImage.l37 k x2 x9 x10 x11 x12 x14 x15 h0 h1) else (spec_LoadImage.l39 k x2 x9 x10 x11 x12 x14 h0 h1)) else (spec_LoadImage.l39 k x2 x9 x10 x11 x12 x14 h0 h1)) else (spec_LoadImage.l39 k x2 x9 x10 x11 x12 x14 h0 h1)
def spec_LoadImage.l37 : Nat → (List Int) → (List S40) → Int → Int → Int → Int → Int → (List (List Int)) → (List Int) → Option ((List (List Int)) × Bool)
  | 0, _, _, _, _, _, _, _, _, _ => none
  | k + 1, x2, x9, x10, x11, x12, x14, x15, h0, h1 => if 0 ≤ (wrap64 (Int.tdiv x15 4)) then (if (wrap64 (Int.tdiv x15 4)) < (x2.length : Int) then ((spec_BytesOf.f (rd x2 (wrap64 (Int.tdiv x15 4)))).bind fun t4 => (if 0 ≤ (Int.tmod x15 4) then (if (Int.tmod x15 4) < (t4.length : Int) then (if h1.length + ([(rd t4 (Int.tmod x15 4))] : List Int).length < 140737488355328 then (spec_LoadImage.l31 k x2 x9 x10 x11 x12 x14 h0 (h1 ++ ([(rd t4 (Int.tmod x15 4))] : List Int))) else none) else none) else none)) else none) else none
def spec_LoadImage.l39 : Nat → (List Int) → (List S40) → Int → Int → Int → Int → (List (List Int)) → (List Int) → Option ((List (List Int)) × Bool)
  | 0, _, _, _, _, _, _, _, _ => none
  | k + 1, x2, x9, x10, x11, x12, x14, h0, h1 => if h1.length + ([0] : List Int).length < 140737488355328 then (spec_LoadImage.l31 k x2 x9 x10 x11 x12 x14 h0 (h1 ++ ([0] : List Int))) else none
def spec_LoadImage.l31 : Nat → (List Int) → (List S40) → Int → Int → Int → Int → (List (List Int)) → (List Int) → Option ((List (List Int)) × Bool)
  | 0, _, _, _, _, _, _, _, _ => none
  | k + 1, x2, x9, x10, x11, x12, x14, h0, h1 => spec_LoadImage.l28 k x2 x9 x10 x11 x12 (wrap64 (x14 + 1)) h0 h1
end
def spec_LoadImage.f (k : Nat) (a0 : S50) (a1 : Int) (a2 : List Int) : Option ((List (List Int)) × Bool) := (spec_Sound.f k a0).bind fun t1 => (if t1 = true then ((spec_l01In.f a1 0 (wrap64 ((a0.f7.length : Int) - 1))).bind fun t2 => (if t2 = true then (if (lenZ a2) > 256 then (some (([] : List (List Int)), false)) else (if 0 ≤ a1 then (if a1 < (a0.f7.length : Int) then (if 0 ≤ a1 then (if a1 < (a0.f7.length : Int) then ((spec_l07At.f k ((rd_T75 a0.f7 a1).f3) ((rd_T75 a0.f7 a1).f1)).bind fun t3 => (if 0 ≤ t3 then (if t3 < (((rd_T75 a0.f7 a1).f3).length : Int) then (if 0 ≤ t3 then (if t3 < (((rd_T75 a0.f7 a1).f3).length : Int) then (if (wrap64 (((rd_T75 a0.f7 a1).f1) + (wrap64 (4 * (lenZ a2))))) > (wrap64 (((rd_T40 ((rd_T75 a0.f7 a1).f3) t3).f0) + ((rd_T40 ((rd_T75 a0.f7 a1).f3) t3).f1))) then (some (([] : List (List Int)), false)) else (spec_LoadImage.l20 k a2 ((rd_T75 a0.f7 a1).f3) ((rd_T75 a0.f7 a1).f1) t3 0 ([] : List (List Int)))) else none) else none) else none) else none)) else none) else none) else none) else none)) else (some (([] : List (List Int)), false)))) else (some (([] : List (List Int)), false)))
def spec_LoadImage.c : FnD := { f := 16, sh := false, ps := [.agg T50, .c (.int .i64), .c (.sl (.int .u32))], pb := [], vc := .tup [(false, [.own 0]), (false, [.bool])], bs := [.arr (.sl (.int .u8)) .un], R := (List (List Int)) × Bool, fn := fun k x y => spec_LoadImage.f k x.1 x.2.1 x.2.2.1, out := fun y => ((((), ()), (y.2, ()), ()), (y.1, ())), inn := fun d => (d.2.1, d.1.2.1.1), inv := fun _ => rfl }
theorem spec_LoadImage.ok : spec_LoadImage.c.OK Try.prog :=
  FnD.of spec_LoadImage.c mix tok (fn := Try.f16) Try.func16 (by kernel_rfl) (fun _ _ => by kernel_rfl) (by kernel_rfl) (by kernel_rfl) [spec_Sound.c, spec_l01In.c, spec_l07At.c, spec_BytesOf.c] ⟨spec_Sound.ok, ⟨spec_l01In.ok, ⟨spec_l07At.ok, ⟨spec_BytesOf.ok, trivial⟩⟩⟩⟩
    [{ lbl := 20, live := [(2, none), (8, none), (9, none), (10, none), (11, none), (12, none)], ms := [], vs := [.c (.sl false (.int .u32)), .c (.own 0), .c (.sl false T40), .c (.int .i64), .c (.int .i64), .c (.int .i64)], bs := [.arr (.sl (.int .u8)) .un], f := fun k x y => spec_LoadImage.l20 k x.1 x.2.2.1 x.2.2.2.1 x.2.2.2.2.1 x.2.2.2.2.2.1 y.1 },
      { lbl := 28, live := [(2, none), (8, none), (9, none), (10, none), (11, none), (12, none), (13, none), (14, none)], ms := [], vs := [.c (.sl false (.int .u32)), .c (.own 0), .c (.sl false T40), .c (.int .i64), .c (.int .i64), .c (.int .i64), .c (.own 1), .c (.int .i64)], bs := [.arr (.sl (.int .u8)) .un, .arr (.int .u8) .un], f := fun k x y => spec_LoadImage.l28 k x.1 x.2.2.1 x.2.2.2.1 x.2.2.2.2.1 x.2.2.2.2.2.1 x.2.2.2.2.2.2.2.1 y.1 y.2.1 },
      { lbl := 33, live := [(2, none), (8, none), (9, none), (10, none), (11, none), (12, none), (13, none), (14, none)], ms := [], vs := [.c (.sl false (.int .u32)), .c (.own 0), .c (.sl false T40), .c (.int .i64), .c (.int .i64), .c (.int .i64), .c (.own 1), .c (.int .i64)], bs := [.arr (.sl (.int .u8)) .un, .arr (.int .u8) .un], f := fun k x y => spec_LoadImage.l33 k x.1 x.2.2.1 x.2.2.2.1 x.2.2.2.2.1 x.2.2.2.2.2.1 x.2.2.2.2.2.2.2.1 y.1 y.2.1 },
      { lbl := 35, live := [(2, none), (8, none), (9, none), (10, none), (11, none), (12, none), (13, none), (14, none), (15, none)], ms := [], vs := [.c (.sl false (.int .u32)), .c (.own 0), .c (.sl false T40), .c (.int .i64), .c (.int .i64), .c (.int .i64), .c (.own 1), .c (.int .i64), .c (.int .i64)], bs := [.arr (.sl (.int .u8)) .un, .arr (.int .u8) .un], f := fun k x y => spec_LoadImage.l35 k x.1 x.2.2.1 x.2.2.2.1 x.2.2.2.2.1 x.2.2.2.2.2.1 x.2.2.2.2.2.2.2.1 x.2.2.2.2.2.2.2.2.1 y.1 y.2.1 },
      { lbl := 37, live := [(2, none), (8, none), (9, none), (10, none), (11, none), (12, none), (13, none), (14, none), (15, none)], ms := [], vs := [.c (.sl false (.int .u32)), .c (.own 0), .c (.sl false T40), .c (.int .i64), .c (.int .i64), .c (.int .i64), .c (.own 1), .c (.int .i64), .c (.int .i64)], bs := [.arr (.sl (.int .u8)) .un, .arr (.int .u8) .un], f := fun k x y => spec_LoadImage.l37 k x.1 x.2.2.1 x.2.2.2.1 x.2.2.2.2.1 x.2.2.2.2.2.1 x.2.2.2.2.2.2.2.1 x.2.2.2.2.2.2.2.2.1 y.1 y.2.1 },
      { lbl := 39, live := [(2, none), (8, none), (9, none), (10, none), (11, none), (12, none), (13, none), (14, none)], ms := [], vs := [.c (.sl false (.int .u32)), .c (.own 0), .c (.sl false T40), .c (.int .i64), .c (.int .i64), .c (.int .i64), .c (.own 1), .c (.int .i64)], bs := [.arr (.sl (.int .u8)) .un, .arr (.int .u8) .un], f := fun k x y => spec_LoadImage.l39 k x.1 x.2.2.1 x.2.2.2.1 x.2.2.2.2.1 x.2.2.2.2.2.1 x.2.2.2.2.2.2.2.1 y.1 y.2.1 },
      { lbl := 31, live := [(2, none), (8, none), (9, none), (10, none), (11, none), (12, none), (13, none), (14, none)], ms := [], vs := [.c (.sl false (.int .u32)), .c (.own 0), .c (.sl false T40), .c (.int .i64), .c (.int .i64), .c (.int .i64), .c (.own 1), .c (.int .i64)], bs := [.arr (.sl (.int .u8)) .un, .arr (.int .u8) .un], f := fun k x y => spec_LoadImage.l31 k x.1 x.2.2.1 x.2.2.2.1 x.2.2.2.2.1 x.2.2.2.2.2.1 x.2.2.2.2.2.2.2.1 y.1 y.2.1 }] { c := fun _ => none, cc := [], ms := [], tn := [], sh := false, fm := [] } rfl 5000 ⟨⟨fun _ _ => rfl, fun k x y => by kernel_rfl⟩, ⟨⟨fun _ _ => rfl, fun k x y => by kernel_rfl⟩, ⟨⟨fun _ _ => rfl, fun k x y => by kernel_rfl⟩, ⟨⟨fun _ _ => rfl, fun k x y => by kernel_rfl⟩, ⟨⟨fun _ _ => rfl, fun k x y => by kernel_rfl⟩, ⟨⟨fun _ _ => rfl, fun k x y => by kernel_rfl⟩, ⟨⟨fun _ _ => rfl, fun k x y => by kernel_rfl⟩, trivial⟩⟩⟩⟩⟩⟩⟩ (fun k x y => by kernel_rfl)

/-! ### loop.example/g00076/impl.within: function 56 -/
def impl_within.f (a0 : Int) (a1 : Int) (a2 : Int) : Option (Bool) := if a0 ≥ a1 then (some (decide (a0 ≤ a2))) else (some false)
def impl_within.c : FnD := { f := 56, sh := false, ps := [.c (.int .i64), .c (.int .i64), .c (.int .i64)], pb := [], vc := .c (.bool), bs := [], R := Bool, fn := fun _ x y => impl_within.f x.1 x.2.1 x.2.2.1, out := fun y => (y, ()), inn := fun d => d.1, inv := fun _ => rfl }
theorem impl_within.ok : impl_within.c.OK Try.prog :=
  FnD.of impl_within.c mix tok (fn := Try.f56) Try.func56 (by kernel_rfl) (fun _ _ => by kernel_rfl) (by kernel_rfl) (by kernel_rfl) [] trivial
    [] { c := fun _ => none, cc := [], ms := [], tn := [], sh := false, fm := [] } rfl 5000 trivial (fun k x y => by kernel_rfl)

/-! ### loop.example/g00076/impl.isMem: function 91 -/
def impl_isMem.f (a0 : Int) : Option (Bool) := (impl_within.f a0 64 2048).bind fun t1 => (if t1 = true then (some (decide ((Int.tmod a0 4) = 0))) else (some false))
def impl_isMem.c : FnD := { f := 91, sh := false, ps := [.c (.int .i64)], pb := [], vc := .c (.bool), bs := [], R := Bool, fn := fun _ x y => impl_isMem.f x.1, out := fun y => (y, ()), inn := fun d => d.1, inv := fun _ => rfl }
theorem impl_isMem.ok : impl_isMem.c.OK Try.prog :=
  FnD.of impl_isMem.c mix tok (fn := Try.f91) Try.func91 (by kernel_rfl) (fun _ _ => by kernel_rfl) (by kernel_rfl) (by kernel_rfl) [impl_within.c] ⟨impl_within.ok, trivial⟩
    [] { c := fun _ => none, cc := [], ms := [], tn := [], sh := false, fm := [] } rfl 5000 trivial (fun k x y => by kernel_rfl)

/-! ### loop.example/g00076/impl.isPower: function 129 -/
def impl_isPower.f (a0 : Int) : Option (Bool) := if a0 > 0 then (some (decide ((bitAnd .i64 a0 (wrap64 (a0 - 1))) = 0))) else (some false)
def impl_isPower.c : FnD := { f := 129, sh := false, ps := [.c (.int .i64)], pb := [], vc := .c (.bool), bs := [], R := Bool, fn := fun _ x y => impl_isPower.f x.1, out := fun y => (y, ()), inn := fun d => d.1, inv := fun _ => rfl }
theorem impl_isPower.ok : impl_isPower.c.OK Try.prog :=
  FnD.of impl_isPower.c mix tok (fn := Try.f129) Try.func129 (by kernel_rfl) (fun _ _ => by kernel_rfl) (by kernel_rfl) (by kernel_rfl) [] trivial
    [] { c := fun _ => none, cc := [], ms := [], tn := [], sh := false, fm := [] } rfl 5000 trivial (fun k x y => by kernel_rfl)

/-! ### loop.example/g00076/impl.isShape: function 92 -/
def impl_isShape.f (a0 : S42) : Option (Bool) := (impl_within.f a0.f0 1 16).bind fun t1 => (if t1 = true then ((impl_isPower.f a0.f0).bind fun t2 => (if t2 = true then ((impl_within.f a0.f1 1 4).bind fun t3 => (if t3 = true then ((impl_within.f a0.f2 4 32).bind fun t4 => (if t4 = true then ((impl_isPower.f a0.f2).bind fun t5 => (some t5)) else (some false))) else (some false))) else (some false))) else (some false))
def impl_isShape.c : FnD := { f := 92, sh := false, ps := [.agg T42], pb := [], vc := .c (.bool), bs := [], R := Bool, fn := fun _ x y => impl_isShape.f x.1, out := fun y => (y, ()), inn := fun d => d.1, inv := fun _ => rfl }
theorem impl_isShape.ok : impl_isShape.c.OK Try.prog :=
  FnD.of impl_isShape.c mix tok (fn := Try.f92) Try.func92 (by kernel_rfl) (fun _ _ => by kernel_rfl) (by kernel_rfl) (by kernel_rfl) [impl_within.c, impl_isPower.c] ⟨impl_within.ok, ⟨impl_isPower.ok, trivial⟩⟩
    [] { c := fun _ => none, cc := [], ms := [], tn := [], sh := false, fm := [] } rfl 5000 trivial (fun k x y => by kernel_rfl)

/-! ### loop.example/g00076/impl.areCosts: function 93 -/
def impl_areCosts.l4 : Nat → Int → Int → Int → Int → Int → Int → Int → S44 → Option (Bool)
  | 0, _, _, _, _, _, _, _, _ => none
  | k + 1, x17_0, x17_1, x17_2, x17_3, x17_4, x17_5, x18, y0 => if x18 < 6 then (if 0 ≤ x18 then (if x18 < ((6 : Nat) : Int) then ((impl_within.f (([x17_0, x17_1, x17_2, x17_3, x17_4, x17_5] : List Int).getD x18.toNat 0) 0 50).bind fun t1 => (if t1 = true then (impl_areCosts.l4 k x17_0 x17_1 x17_2 x17_3 x17_4 x17_5 (wrap64 (x18 + 1)) y0) else (some false))) else none) else none) else ((impl_within.f y0.f0 1 20).bind fun t2 => (some t2))
def impl_areCosts.f (k : Nat) (a0 : S44) : Option (Bool) := impl_areCosts.l4 k a0.f1 a0.f2 a0.f3 a0.f4 a0.f5 a0.f6 0 a0
def impl_areCosts.c : FnD := { f := 93, sh := false, ps := [.agg T44], pb := [], vc := .c (.bool), bs := [], R := Bool, fn := fun k x y => impl_areCosts.f k x.1, out := fun y => (y, ()), inn := fun d => d.1, inv := fun _ => rfl }
theorem impl_areCosts.ok : impl_areCosts.c.OK Try.prog :=
  FnD.of impl_areCosts.c mix tok (fn := Try.f93) Try.func93 (by kernel_rfl) (fun _ _ => by kernel_rfl) (by kernel_rfl) (by kernel_rfl) [impl_within.c] ⟨impl_within.ok, trivial⟩
    [{ lbl := 4, live := [(1, none), (17, none), (18, none)], ms := [], vs := [.c (.ptr 0 0), .agg [.int .i64, .int .i64, .int .i64, .int .i64, .int .i64, .int .i64], .c (.int .i64)], bs := [.cells 44 [.int .i64, .int .i64, .int .i64, .int .i64, .int .i64, .int .i64, .int .i64]], f := fun k x y => impl_areCosts.l4 k x.2.1.1 x.2.1.2.1 x.2.1.2.2.1 x.2.1.2.2.2.1 x.2.1.2.2.2.2.1 x.2.1.2.2.2.2.2.1 x.2.2.1 (y.1.1, y.1.2.1, y.1.2.2.1, y.1.2.2.2.1, y.1.2.2.2.2.1, y.1.2.2.2.2.2.1, y.1.2.2.2.2.2.2.1) }] { c := fun _ => none, cc := [], ms := [], tn := [], sh := false, fm := [] } rfl 5000 ⟨⟨fun _ _ => rfl, fun k x y => by kernel_rfl⟩, trivial⟩ (fun k x y => by kernel_rfl)

/-! ### loop.example/g00076/impl.isSpan: function 94 -/
def impl_isSpan.f (a0 : Int) : Option (Bool) := (impl_within.f a0 1 5000).bind fun t1 => (some t1)
def impl_isSpan.c : FnD := { f := 94, sh := false, ps := [.c (.int .i64)], pb := [], vc := .c (.bool), bs := [], R := Bool, fn := fun _ x y => impl_isSpan.f x.1, out := fun y => (y, ()), inn := fun d => d.1, inv := fun _ => rfl }
theorem impl_isSpan.ok : impl_isSpan.c.OK Try.prog :=
  FnD.of impl_isSpan.c mix tok (fn := Try.f94) Try.func94 (by kernel_rfl) (fun _ _ => by kernel_rfl) (by kernel_rfl) (by kernel_rfl) [impl_within.c] ⟨impl_within.ok, trivial⟩
    [] { c := fun _ => none, cc := [], ms := [], tn := [], sh := false, fm := [] } rfl 5000 trivial (fun k x y => by kernel_rfl)

/-! ### loop.example/g00076/impl.opCost: function 148 -/
def impl_opCost.f (a0 : S44) (a1 : Int) : Option (Int) := if a1 = 9 then (some (wrap64 (a0.f0 + a0.f1))) else (if a1 = 10 then (some (wrap64 (a0.f0 + a0.f1))) else ((impl_within.f a1 15 18).bind fun t1 => (if t1 = true then (some (wrap64 (a0.f0 + a0.f2))) else (if a1 ≥ 25 then (some (wrap64 (a0.f0 + a0.f5))) else (some a0.f0)))))
def impl_opCost.c : FnD := { f := 148, sh := false, ps := [.agg T44, .c (.int .i64)], pb := [], vc := .c (.int .i64), bs := [], R := Int, fn := fun _ x y => impl_opCost.f x.1 x.2.1, out := fun y => (y, ()), inn := fun d => d.1, inv := fun _ => rfl }
theorem impl_opCost.ok : impl_opCost.c.OK Try.prog :=
  FnD.of impl_opCost.c mix tok (fn := Try.f148) Try.func148 (by kernel_rfl) (fun _ _ => by kernel_rfl) (by kernel_rfl) (by kernel_rfl) [impl_within.c] ⟨impl_within.ok, trivial⟩
    [] { c := fun _ => none, cc := [], ms := [], tn := [], sh := false, fm := [] } rfl 5000 trivial (fun k x y => by kernel_rfl)

/-! ### loop.example/g00076/impl.accessCost: function 149 -/
def impl_accessCost.f (a0 : S44) (a1 : S179) : Option (Int) := if a1.f0 = true then (if a1.f1 = true then (if a1.f2 = true then (some (wrap64 (0 + a0.f6))) else (some 0)) else (if a1.f2 = true then (some (wrap64 ((wrap64 (0 + a0.f4)) + a0.f6))) else (some (wrap64 (0 + a0.f4))))) else (if a1.f1 = true then (if a1.f2 = true then (some (wrap64 ((wrap64 (0 + a0.f3)) + a0.f6))) else (some (wrap64 (0 + a0.f3)))) else (if a1.f2 = true then (some (wrap64 ((wrap64 ((wrap64 (0 + a0.f3)) + a0.f4)) + a0.f6))) else (some (wrap64 ((wrap64 (0 + a0.f3)) + a0.f4)))))
def impl_accessCost.c : FnD := { f := 149, sh := false, ps := [.agg T44, .agg T179], pb := [], vc := .c (.int .i64), bs := [], R := Int, fn := fun _ x y => impl_accessCost.f x.1 x.2.1, out := fun y => (y, ()), inn := fun d => d.1, inv := fun _ => rfl }
theorem impl_accessCost.ok : impl_accessCost.c.OK Try.prog :=
  FnD.of impl_accessCost.c mix tok (fn := Try.f149) Try.func149 (by kernel_rfl) (fun _ _ => by kernel_rfl) (by kernel_rfl) (by kernel_rfl) [] trivial
    [] { c := fun _ => none, cc := [], ms := [], tn := [], sh := false, fm := [] } rfl 5000 trivial (fun k x y => by kernel_rfl)

/-! ### loop.example/g00076/impl.WorstStep: function 130 -/
def impl_WorstStep.l10 : Nat → Int → Int → S44 → Option (Int)
  | 0, _, _, _ => none
  | k + 1, x3, x8, y0 => if x8 < 33 then ((impl_opCost.f y0 x8).bind fun t2 => (impl_WorstStep.l10 k (mx x3 t2) (wrap64 (x8 + 1)) y0)) else ((impl_accessCost.f y0 (⟨false, false, true⟩ : S179)).bind fun t3 => (some (wrap64 ((wrap64 (x3 + (wrap64 (2 * t3)))) + y0.f5))))
def impl_WorstStep.f (k : Nat) (a0 : S44) : Option (Int) := (impl_areCosts.f k a0).bind fun t1 => (if t1 = true then (impl_WorstStep.l10 k 0 0 a0) else (some (-1)))
def impl_WorstStep.c : FnD := { f := 130, sh := false, ps := [.agg T44], pb := [], vc := .c (.int .i64), bs := [], R := Int, fn := fun k x y => impl_WorstStep.f k x.1, out := fun y => (y, ()), inn := fun d => d.1, inv := fun _ => rfl }
theorem impl_WorstStep.ok : impl_WorstStep.c.OK Try.prog :=
  FnD.of impl_WorstStep.c mix tok (fn := Try.f130) Try.func130 (by kernel_rfl) (fun _ _ => by kernel_rfl) (by kernel_rfl) (by kernel_rfl) [impl_areCosts.c, impl_opCost.c, impl_accessCost.c] ⟨impl_areCosts.ok, ⟨impl_opCost.ok, ⟨impl_accessCost.ok, trivial⟩⟩⟩
    [{ lbl := 10, live := [(1, none), (3, none), (8, none)], ms := [], vs := [.c (.ptr 0 0), .c (.int .i64), .c (.int .i64)], bs := [.cells 44 [.int .i64, .int .i64, .int .i64, .int .i64, .int .i64, .int .i64, .int .i64]], f := fun k x y => impl_WorstStep.l10 k x.2.1 x.2.2.1 (y.1.1, y.1.2.1, y.1.2.2.1, y.1.2.2.2.1, y.1.2.2.2.2.1, y.1.2.2.2.2.2.1, y.1.2.2.2.2.2.2.1) }] { c := fun _ => none, cc := [], ms := [], tn := [], sh := false, fm := [] } rfl 5000 ⟨⟨fun _ _ => rfl, fun k x y => by kernel_rfl⟩, trivial⟩ (fun k x y => by kernel_rfl)

/-! ### loop.example/g00076/impl.worstStep: function 95 -/
def impl_worstStep.f (k : Nat) (a0 : S44) : Option (Int) := (impl_WorstStep.f k a0).bind fun t1 => (some t1)
def impl_worstStep.c : FnD := { f := 95, sh := false, ps := [.agg T44], pb := [], vc := .c (.int .i64), bs := [], R := Int, fn := fun k x y => impl_worstStep.f k x.1, out := fun y => (y, ()), inn := fun d => d.1, inv := fun _ => rfl }
theorem impl_worstStep.ok : impl_worstStep.c.OK Try.prog :=
  FnD.of impl_worstStep.c mix tok (fn := Try.f95) Try.func95 (by kernel_rfl) (fun _ _ => by kernel_rfl) (by kernel_rfl) (by kernel_rfl) [impl_WorstStep.c] ⟨impl_WorstStep.ok, trivial⟩
    [] { c := fun _ => none, cc := [], ms := [], tn := [], sh := false, fm := [] } rfl 5000 trivial (fun k x y => by kernel_rfl)

/-! ### loop.example/g00076/impl.isLabel: function 150 -/
def impl_isLabel.l4 : Nat → ByteArray → Int → Int → Option (Bool)
  | 0, _, _, _ => none
  | k + 1, x0, x5, x6 => if x6 < x5 then (if 0 ≤ x6 then (if x6 < (x0.size : Int) then (if (bt x0 x6) < 97 then (some false) else (if 0 ≤ x6 then (if x6 < (x0.size : Int) then (if (bt x0 x6) > 122 then (some false) else (impl_isLabel.l4 k x0 x5 (wrap64 (x6 + 1)))) else none) else none)) else none) else none) else ((impl_within.f (x0.size : Int) 1 12).bind fun t1 => (some t1))
def impl_isLabel.f (k : Nat) (a0 : ByteArray) : Option (Bool) := impl_isLabel.l4 k a0 (a0.size : Int) 0
def impl_isLabel.c : FnD := { f := 150, sh := false, ps := [.c .str], pb := [], vc := .c (.bool), bs := [], R := Bool, fn := fun k x y => impl_isLabel.f k x.1, out := fun y => (y, ()), inn := fun d => d.1, inv := fun _ => rfl }
theorem impl_isLabel.ok : impl_isLabel.c.OK Try.prog :=
  FnD.of impl_isLabel.c mix tok (fn := Try.f150) Try.func150 (by kernel_rfl) (fun _ _ => by kernel_rfl) (by kernel_rfl) (by kernel_rfl) [impl_within.c] ⟨impl_within.ok, trivial⟩
    [{ lbl := 4, live := [(0, none), (5, none), (6, none)], ms := [], vs := [.c (.str), .c (.int .i64), .c (.int .i64)], bs := [], f := fun k x y => impl_isLabel.l4 k x.1 x.2.1 x.2.2.1 }] { c := fun _ => none, cc := [], ms := [], tn := [], sh := false, fm := [] } rfl 5000 ⟨⟨fun _ _ => rfl, fun k x y => by kernel_rfl⟩, trivial⟩ (fun k x y => by kernel_rfl)

/-! ### loop.example/g00076/impl.isName: function 131 -/
def impl_isName.f (k : Nat) (a0 : ByteArray) : Option (Bool) := (impl_isLabel.f k a0).bind fun t1 => (if t1 = true then (some (decide ((a0.size : Int) ≤ 8))) else (some false))
def impl_isName.c : FnD := { f := 131, sh := false, ps := [.c .str], pb := [], vc := .c (.bool), bs := [], R := Bool, fn := fun k x y => impl_isName.f k x.1, out := fun y => (y, ()), inn := fun d => d.1, inv := fun _ => rfl }
theorem impl_isName.ok : impl_isName.c.OK Try.prog :=
  FnD.of impl_isName.c mix tok (fn := Try.f131) Try.func131 (by kernel_rfl) (fun _ _ => by kernel_rfl) (by kernel_rfl) (by kernel_rfl) [impl_isLabel.c] ⟨impl_isLabel.ok, trivial⟩
    [] { c := fun _ => none, cc := [], ms := [], tn := [], sh := false, fm := [] } rfl 5000 trivial (fun k x y => by kernel_rfl)

/-! ### loop.example/g00076/impl.partNamed$1: function 152 -/
def impl_partNamed_1.f (a0 : S75) (c1 : ByteArray) : Option (Bool) := some (decide (a0.f0 = c1))
def impl_partNamed_1.c : FnD := { f := 152, sh := false, ps := [.agg T75, .cap .str], pb := [], vc := .c (.bool), bs := [], R := Bool, fn := fun _ x y => impl_partNamed_1.f x.1 x.2.1, out := fun y => (y, ()), inn := fun d => d.1, inv := fun _ => rfl }
theorem impl_partNamed_1.ok : impl_partNamed_1.c.OK Try.prog :=
  FnD.of impl_partNamed_1.c mix tok (fn := Try.f152) Try.func152 (by kernel_rfl) (fun _ _ => by kernel_rfl) (by kernel_rfl) (by kernel_rfl) [] trivial
    [] { c := fun _ => none, cc := [], ms := [], tn := [], sh := false, fm := [] } rfl 5000 trivial (fun k x y => by kernel_rfl)

/-! ### slices.IndexFunc[[]loop.example/g00076/impl.PartRow,loop.example/g00076/impl.PartRow]: function 151 -/
def slices_IndexFunc_151_152.l4 : Nat → (List S75) → ByteArray → Int → Int → Option (Int)
  | 0, _, _, _, _ => none
  | k + 1, x0, x1_0, x7, x8 => if x8 < x7 then (if 0 ≤ x8 then (if x8 < (x0.length : Int) then ((impl_partNamed_1.f (rd_T75 x0 x8) x1_0).bind fun t1 => (if t1 = true then (some x8) else (slices_IndexFunc_151_152.l4 k x0 x1_0 x7 (wrap64 (x8 + 1))))) else none) else none) else (some (-1))
def slices_IndexFunc_151_152.f (k : Nat) (a0 : List S75) (p1_0 : ByteArray) : Option (Int) := slices_IndexFunc_151_152.l4 k a0 p1_0 (a0.length : Int) 0
def slices_IndexFunc_151_152.c : FnD := { f := 151, sh := false, ps := [.c (.sl T75), .fn 152 [.str]], pb := [], vc := .c (.int .i64), bs := [], R := Int, fn := fun k x y => slices_IndexFunc_151_152.f k x.1 x.2.1.1, out := fun y => (y, ()), inn := fun d => d.1, inv := fun _ => rfl }
theorem slices_IndexFunc_151_152.ok : slices_IndexFunc_151_152.c.OK Try.prog :=
  FnD.of slices_IndexFunc_151_152.c mix tok (fn := Try.f151) Try.func151 (by kernel_rfl) (fun _ _ => by kernel_rfl) (by kernel_rfl) (by kernel_rfl) [impl_partNamed_1.c] ⟨impl_partNamed_1.ok, trivial⟩
    [{ lbl := 4, live := [(0, none), (1, none), (7, none), (8, none)], ms := [], vs := [.c (.sl false T75), .c (.fn 152 [.str]), .c (.int .i64), .c (.int .i64)], bs := [], f := fun k x y => slices_IndexFunc_151_152.l4 k x.1 x.2.1.1 x.2.2.1 x.2.2.2.1 }] { c := fun _ => none, cc := [], ms := [], tn := [], sh := false, fm := [] } rfl 5000 ⟨⟨fun _ _ => rfl, fun k x y => by kernel_rfl⟩, trivial⟩ (fun k x y => by kernel_rfl)

/-! ### loop.example/g00076/impl.partNamed: function 132 -/
def impl_partNamed.f (k : Nat) (a0 : S50) (a1 : ByteArray) : Option (Int) := (slices_IndexFunc_151_152.f k a0.f7 a1).bind fun t1 => (some t1)
def impl_partNamed.c : FnD := { f := 132, sh := false, ps := [.agg T50, .c .str], pb := [], vc := .c (.int .i64), bs := [], R := Int, fn := fun k x y => impl_partNamed.f k x.1 x.2.1, out := fun y => (y, ()), inn := fun d => d.1, inv := fun _ => rfl }
theorem impl_partNamed.ok : impl_partNamed.c.OK Try.prog :=
  FnD.of impl_partNamed.c mix tok (fn := Try.f132) Try.func132 (by kernel_rfl) (fun _ _ => by kernel_rfl) (by kernel_rfl) (by kernel_rfl) [slices_IndexFunc_151_152.c] ⟨slices_IndexFunc_151_152.ok, trivial⟩
    [] { c := fun _ => none, cc := [], ms := [], tn := [], sh := false, fm := [] } rfl 5000 trivial (fun k x y => by kernel_rfl)

/-! ### loop.example/g00076/impl.isPolicy: function 133 -/
def impl_isPolicy.f (a0 : S73) : Option (Bool) := if a0.f0 = 1 then ((impl_within.f a0.f1 0 100).bind fun t1 => (some t1)) else (if a0.f0 = 0 then (some (decide (a0.f1 = 0))) else (if a0.f0 = 2 then (some (decide (a0.f1 = 0))) else (some false)))
def impl_isPolicy.c : FnD := { f := 133, sh := false, ps := [.agg T73], pb := [], vc := .c (.bool), bs := [], R := Bool, fn := fun _ x y => impl_isPolicy.f x.1, out := fun y => (y, ()), inn := fun d => d.1, inv := fun _ => rfl }
theorem impl_isPolicy.ok : impl_isPolicy.c.OK Try.prog :=
  FnD.of impl_isPolicy.c mix tok (fn := Try.f133) Try.func133 (by kernel_rfl) (fun _ _ => by kernel_rfl) (by kernel_rfl) (by kernel_rfl) [impl_within.c] ⟨impl_within.ok, trivial⟩
    [] { c := fun _ => none, cc := [], ms := [], tn := [], sh := false, fm := [] } rfl 5000 trivial (fun k x y => by kernel_rfl)

/-! ### loop.example/g00076/impl.isWindow: function 76 -/
def impl_isWindow.f (a0 : S40) : Option (Bool) := (impl_within.f a0.f1 4 2048).bind fun t1 => (if t1 = true then (if (Int.tmod a0.f1 4) = 0 then ((impl_within.f a0.f0 0 (wrap64 (2048 - a0.f1))).bind fun t2 => (if t2 = true then (if (Int.tmod a0.f0 4) = 0 then ((impl_within.f a0.f2 1 7).bind fun t3 => (some t3)) else (some false)) else (some false))) else (some false)) else (some false))
def impl_isWindow.c : FnD := { f := 76, sh := false, ps := [.agg T40], pb := [], vc := .c (.bool), bs := [], R := Bool, fn := fun _ x y => impl_isWindow.f x.1, out := fun y => (y, ()), inn := fun d => d.1, inv := fun _ => rfl }
theorem impl_isWindow.ok : impl_isWindow.c.OK Try.prog :=
  FnD.of impl_isWindow.c mix tok (fn := Try.f76) Try.func76 (by kernel_rfl) (fun _ _ => by kernel_rfl) (by kernel_rfl) (by kernel_rfl) [impl_within.c] ⟨impl_within.ok, trivial⟩
    [] { c := fun _ => none, cc := [], ms := [], tn := [], sh := false, fm := [] } rfl 5000 trivial (fun k x y => by kernel_rfl)

/-! ### loop.example/g00076/impl.areApart: function 79 -/
def impl_areApart.f (a0 : S40) (a1 : S40) : Option (Bool) := if (wrap64 (a0.f0 + a0.f1)) ≤ a1.f0 then (some true) else (some (decide ((wrap64 (a1.f0 + a1.f1)) ≤ a0.f0)))
def impl_areApart.c : FnD := { f := 79, sh := false, ps := [.agg T40, .agg T40], pb := [], vc := .c (.bool), bs := [], R := Bool, fn := fun _ x y => impl_areApart.f x.1 x.2.1, out := fun y => (y, ()), inn := fun d => d.1, inv := fun _ => rfl }
theorem impl_areApart.ok : impl_areApart.c.OK Try.prog :=
  FnD.of impl_areApart.c mix tok (fn := Try.f79) Try.func79 (by kernel_rfl) (fun _ _ => by kernel_rfl) (by kernel_rfl) (by kernel_rfl) [] trivial
    [] { c := fun _ => none, cc := [], ms := [], tn := [], sh := false, fm := [] } rfl 5000 trivial (fun k x y => by kernel_rfl)

/-! ### loop.example/g00076/impl.areParts$1: function 134 -/
def impl_areParts_1.f (a0 : S40) (c1 : S40) : Option (Bool) := (impl_areApart.f a0 c1).bind fun t1 => (some (!t1))
def impl_areParts_1.c : FnD := { f := 134, sh := false, ps := [.agg T40, .cap T40], pb := [], vc := .c (.bool), bs := [], R := Bool, fn := fun _ x y => impl_areParts_1.f x.1 x.2.1, out := fun y => (y, ()), inn := fun d => d.1, inv := fun _ => rfl }
theorem impl_areParts_1.ok : impl_areParts_1.c.OK Try.prog :=
  FnD.of impl_areParts_1.c mix tok (fn := Try.f134) Try.func134 (by kernel_rfl) (fun _ _ => by kernel_rfl) (by kernel_rfl) (by kernel_rfl) [impl_areApart.c] ⟨impl_areApart.ok, trivial⟩
    [] { c := fun _ => none, cc := [], ms := [], tn := [], sh := false, fm := [] } rfl 5000 trivial (fun k x y => by kernel_rfl)

/-! ### slices.IndexFunc[[]loop.example/g00076/impl.Window,loop.example/g00076/impl.Window]: function 118 -/
def slices_IndexFunc_118_134.l4 : Nat → (List S40) → S40 → Int → Int → Option (Int)
  | 0, _, _, _, _ => none
  | k + 1, x0, x1_0, x7, x8 => if x8 < x7 then (if 0 ≤ x8 then (if x8 < (x0.length : Int) then ((impl_areParts_1.f (rd_T40 x0 x8) x1_0).bind fun t1 => (if t1 = true then (some x8) else (slices_IndexFunc_118_134.l4 k x0 x1_0 x7 (wrap64 (x8 + 1))))) else none) else none) else (some (-1))
def slices_IndexFunc_118_134.f (k : Nat) (a0 : List S40) (p1_0 : S40) : Option (Int) := slices_IndexFunc_118_134.l4 k a0 p1_0 (a0.length : Int) 0
def slices_IndexFunc_118_134.c : FnD := { f := 118, sh := false, ps := [.c (.sl T40), .fn 134 [T40]], pb := [], vc := .c (.int .i64), bs := [], R := Int, fn := fun k x y => slices_IndexFunc_118_134.f k x.1 x.2.1.1, out := fun y => (y, ()), inn := fun d => d.1, inv := fun _ => rfl }
theorem slices_IndexFunc_118_134.ok : slices_IndexFunc_118_134.c.OK Try.prog :=
  FnD.of slices_IndexFunc_118_134.c mix tok (fn := Try.f118) Try.func118 (by kernel_rfl) (fun _ _ => by kernel_rfl) (by kernel_rfl) (by kernel_rfl) [impl_areParts_1.c] ⟨impl_areParts_1.ok, trivial⟩
    [{ lbl := 4, live := [(0, none), (1, none), (7, none), (8, none)], ms := [], vs := [.c (.sl false T40), .c (.fn 134 [T40]), .c (.int .i64), .c (.int .i64)], bs := [], f := fun k x y => slices_IndexFunc_118_134.l4 k x.1 x.2.1.1 x.2.2.1 x.2.2.2.1 }] { c := fun _ => none, cc := [], ms := [], tn := [], sh := false, fm := [] } rfl 5000 ⟨⟨fun _ _ => rfl, fun k x y => by kernel_rfl⟩, trivial⟩ (fun k x y => by kernel_rfl)

/-! ### slices.ContainsFunc[[]loop.example/g00076/impl.Window,loop.example/g00076/impl.Window]: function 77 -/
def slices_ContainsFunc_77_134.f (k : Nat) (a0 : List S40) (p1_0 : S40) : Option (Bool) := (slices_IndexFunc_118_134.f k a0 p1_0).bind fun t1 => (some (decide (t1 ≥ 0)))
def slices_ContainsFunc_77_134.c : FnD := { f := 77, sh := false, ps := [.c (.sl T40), .fn 134 [T40]], pb := [], vc := .c (.bool), bs := [], R := Bool, fn := fun k x y => slices_ContainsFunc_77_134.f k x.1 x.2.1.1, out := fun y => (y, ()), inn := fun d => d.1, inv := fun _ => rfl }
theorem slices_ContainsFunc_77_134.ok : slices_ContainsFunc_77_134.c.OK Try.prog :=
  FnD.of slices_ContainsFunc_77_134.c mix tok (fn := Try.f77) Try.func77 (by kernel_rfl) (fun _ _ => by kernel_rfl) (by kernel_rfl) (by kernel_rfl) [slices_IndexFunc_118_134.c] ⟨slices_IndexFunc_118_134.ok, trivial⟩
    [] { c := fun _ => none, cc := [], ms := [], tn := [], sh := false, fm := [] } rfl 5000 trivial (fun k x y => by kernel_rfl)

/-! ### loop.example/g00076/impl.windowAt$1: function 119 -/
def impl_windowAt_1.f (a0 : S40) (c1 : Int) : Option (Bool) := if a0.f0 ≤ c1 then (some (decide (c1 < (wrap64 (a0.f0 + a0.f1))))) else (some false)
def impl_windowAt_1.c : FnD := { f := 119, sh := false, ps := [.agg T40, .cap (.int .i64)], pb := [], vc := .c (.bool), bs := [], R := Bool, fn := fun _ x y => impl_windowAt_1.f x.1 x.2.1, out := fun y => (y, ()), inn := fun d => d.1, inv := fun _ => rfl }
theorem impl_windowAt_1.ok : impl_windowAt_1.c.OK Try.prog :=
  FnD.of impl_windowAt_1.c mix tok (fn := Try.f119) Try.func119 (by kernel_rfl) (fun _ _ => by kernel_rfl) (by kernel_rfl) (by kernel_rfl) [] trivial
    [] { c := fun _ => none, cc := [], ms := [], tn := [], sh := false, fm := [] } rfl 5000 trivial (fun k x y => by kernel_rfl)

/-! ### slices.IndexFunc[[]loop.example/g00076/impl.Window,loop.example/g00076/impl.Window]: function 118 -/
def slices_IndexFunc_118_119.l4 : Nat → (List S40) → Int → Int → Int → Option (Int)
  | 0, _, _, _, _ => none
  | k + 1, x0, x1_0, x7, x8 => if x8 < x7 then (if 0 ≤ x8 then (if x8 < (x0.length : Int) then ((impl_windowAt_1.f (rd_T40 x0 x8) x1_0).bind fun t1 => (if t1 = true then (some x8) else (slices_IndexFunc_118_119.l4 k x0 x1_0 x7 (wrap64 (x8 + 1))))) else none) else none) else (some (-1))
def slices_IndexFunc_118_119.f (k : Nat) (a0 : List S40) (p1_0 : Int) : Option (Int) := slices_IndexFunc_118_119.l4 k a0 p1_0 (a0.length : Int) 0
def slices_IndexFunc_118_119.c : FnD := { f := 118, sh := false, ps := [.c (.sl T40), .fn 119 [(.int .i64)]], pb := [], vc := .c (.int .i64), bs := [], R := Int, fn := fun k x y => slices_IndexFunc_118_119.f k x.1 x.2.1.1, out := fun y => (y, ()), inn := fun d => d.1, inv := fun _ => rfl }
theorem slices_IndexFunc_118_119.ok : slices_IndexFunc_118_119.c.OK Try.prog :=
  FnD.of slices_IndexFunc_118_119.c mix tok (fn := Try.f118) Try.func118 (by kernel_rfl) (fun _ _ => by kernel_rfl) (by kernel_rfl) (by kernel_rfl) [impl_windowAt_1.c] ⟨impl_windowAt_1.ok, trivial⟩
    [{ lbl := 4, live := [(0, none), (1, none), (7, none), (8, none)], ms := [], vs := [.c (.sl false T40), .c (.fn 119 [(.int .i64)]), .c (.int .i64), .c (.int .i64)], bs := [], f := fun k x y => slices_IndexFunc_118_119.l4 k x.1 x.2.1.1 x.2.2.1 x.2.2.2.1 }] { c := fun _ => none, cc := [], ms := [], tn := [], sh := false, fm := [] } rfl 5000 ⟨⟨fun _ _ => rfl, fun k x y => by kernel_rfl⟩, trivial⟩ (fun k x y => by kernel_rfl)

/-! ### loop.example/g00076/impl.windowAt: function 74 -/
def impl_windowAt.f (k : Nat) (a0 : List S40) (a1 : Int) : Option (Int) := (slices_IndexFunc_118_119.f k a0 a1).bind fun t1 => (some t1)
def impl_windowAt.c : FnD := { f := 74, sh := false, ps := [.c (.sl T40), .c (.int .i64)], pb := [], vc := .c (.int .i64), bs := [], R := Int, fn := fun k x y => impl_windowAt.f k x.1 x.2.1, out := fun y => (y, ()), inn := fun d => d.1, inv := fun _ => rfl }
theorem impl_windowAt.ok : impl_windowAt.c.OK Try.prog :=
  FnD.of impl_windowAt.c mix tok (fn := Try.f74) Try.func74 (by kernel_rfl) (fun _ _ => by kernel_rfl) (by kernel_rfl) (by kernel_rfl) [slices_IndexFunc_118_119.c] ⟨slices_IndexFunc_118_119.ok, trivial⟩
    [] { c := fun _ => none, cc := [], ms := [], tn := [], sh := false, fm := [] } rfl 5000 trivial (fun k x y => by kernel_rfl)

/-! ### loop.example/g00076/impl.runsAt: function 135 -/
def impl_runsAt.f (k : Nat) (a0 : S75) (a1 : Int) : Option (Bool) := (impl_windowAt.f k a0.f3 a1).bind fun t1 => (if t1 ≥ 0 then (if 0 ≤ t1 then (if t1 < (a0.f3.length : Int) then (some (!(decide ((bitAnd .i64 ((rd_T40 a0.f3 t1).f2) 4) = 0)))) else none) else none) else (some false))
def impl_runsAt.c : FnD := { f := 135, sh := false, ps := [.agg T75, .c (.int .i64)], pb := [], vc := .c (.bool), bs := [], R := Bool, fn := fun k x y => impl_runsAt.f k x.1 x.2.1, out := fun y => (y, ()), inn := fun d => d.1, inv := fun _ => rfl }
theorem impl_runsAt.ok : impl_runsAt.c.OK Try.prog :=
  FnD.of impl_runsAt.c mix tok (fn := Try.f135) Try.func135 (by kernel_rfl) (fun _ _ => by kernel_rfl) (by kernel_rfl) (by kernel_rfl) [impl_windowAt.c] ⟨impl_windowAt.ok, trivial⟩
    [] { c := fun _ => none, cc := [], ms := [], tn := [], sh := false, fm := [] } rfl 5000 trivial (fun k x y => by kernel_rfl)

/-! ### loop.example/g00076/impl.areParts: function 96 -/
mutual
def impl_areParts.l6 : Nat → (List S75) → Int → Int → S50 → (List S40) → Option (Bool)
  | 0, _, _, _, _, _ => none
  | k + 1, x9, x10, x11, y0, h1 => if x11 < x10 then (if 0 ≤ x11 then (if x11 < (x9.length : Int) then ((impl_isName.f k ((rd_T75 x9 x11).f0)).bind fun t1 => (if t1 = true then ((impl_partNamed.f k y0 ((rd_T75 x9 x11).f0)).bind fun t2 => (if t2 < x11 then (some false) else ((impl_isPolicy.f ((rd_T75 x9 x11).f2)).bind fun t3 => (if t3 = true then ((impl_within.f (((rd_T75 x9 x11).f3).length : Int) 1 4).bind fun t4 => (if t4 = true then (impl_areParts.l16 k x9 x10 x11 ((rd_T75 x9 x11).f3) (((rd_T75 x9 x11).f3).length : Int) 0 y0 h1 (rd_T75 x9 x11)) else (some false))) else (some false))))) else (some false))) else none) else none) else (some true)
def impl_areParts.l16 : Nat → (List S75) → Int → Int → (List S40) → Int → Int → S50 → (List S40) → S75 → Option (Bool)
  | 0, _, _, _, _, _, _, _, _, _ => none
  | k + 1, x9, x10, x11, x42, x43, x44, y0, h1, y2 => if x44 < x43 then (if 0 ≤ x44 then (if x44 < (x42.length : Int) then ((impl_isWindow.f (rd_T40 x42 x44)).bind fun t5 => (if t5 = true then (if (wrap64 (((rd_T40 x42 x44).f0) + ((rd_T40 x42 x44).f1))) > y0.f0 then (some false) else ((slices_ContainsFunc_77_134.f k h1 (rd_T40 x42 x44)).bind fun t6 => (if t6 = true then (some false) else (if h1.length + ([(rd_T40 x42 x44)] : List S40).length < 5864062014805 then (impl_areParts.l16 k x9 x10 x11 x42 x43 (wrap64 (x44 + 1)) y0 (h1 ++ ([(rd_T40 x42 x44)] : List S40)) y2) else none)))) else (some false))) else none) else none) else (if (Int.tmod y2.f1 4) = 0 then ((impl_runsAt.f k y2 y2.f1).bind fun t7 => (if t7 = true then (impl_areParts.l6 k x9 x10 (wrap64 (x11 + 1)) y0 h1) else (some false))) else (some false))
end
def impl_areParts.f (k : Nat) (a0 : S50) : Option (Bool) := impl_areParts.l6 k a0.f7 (a0.f7.length : Int) 0 a0 ([] : List S40)
def impl_areParts.c : FnD := { f := 96, sh := false, ps := [.agg T50], pb := [], vc := .c (.bool), bs := [], R := Bool, fn := fun k x y => impl_areParts.f k x.1, out := fun y => (y, ()), inn := fun d => d.1, inv := fun _ => rfl }
theorem impl_areParts.ok : impl_areParts.c.OK Try.prog :=
  FnD.of impl_areParts.c mix tok (fn := Try.f96) Try.func96 (by kernel_rfl) (fun _ _ => by kernel_rfl) (by kernel_rfl) (by kernel_rfl) [impl_isName.c, impl_partNamed.c, impl_isPolicy.c, impl_within.c, impl_isWindow.c, slices_ContainsFunc_77_134.c, impl_runsAt.c] ⟨impl_isName.ok, ⟨impl_partNamed.ok, ⟨impl_isPolicy.ok, ⟨impl_within.ok, ⟨impl_isWindow.ok, ⟨slices_ContainsFunc_77_134.ok, ⟨impl_runsAt.ok, trivial⟩⟩⟩⟩⟩⟩⟩
    [{ lbl := 6, live := [(1, none), (3, some (.row T40)), (9, none), (10, none), (11, none)], ms := [], vs := [.c (.ptr 0 0), .c (.own 1), .c (.sl false T75), .c (.int .i64), .c (.int .i64)], bs := [.cells 50 [.int .i64, .int .i64, .int .i64, .int .i64, .int .i64, .int .i64, .int .i64, .int .i64, .int .i64, .int .i64, .int .i64, .int .i64, .int .i64, .int .i64, .int .i64, .sl false T75, .sl false (.int .i64), .sl false T117, .sl false T86], .arr T40 .un], f := fun k x y => impl_areParts.l6 k x.2.2.1 x.2.2.2.1 x.2.2.2.2.1 (y.1.1, (y.1.2.1, y.1.2.2.1, y.1.2.2.2.1), y.1.2.2.2.2.1, (y.1.2.2.2.2.2.1, y.1.2.2.2.2.2.2.1, y.1.2.2.2.2.2.2.2.1, y.1.2.2.2.2.2.2.2.2.1, y.1.2.2.2.2.2.2.2.2.2.1, y.1.2.2.2.2.2.2.2.2.2.2.1, y.1.2.2.2.2.2.2.2.2.2.2.2.1), y.1.2.2.2.2.2.2.2.2.2.2.2.2.1, y.1.2.2.2.2.2.2.2.2.2.2.2.2.2.1, y.1.2.2.2.2.2.2.2.2.2.2.2.2.2.2.1, y.1.2.2.2.2.2.2.2.2.2.2.2.2.2.2.2.1, y.1.2.2.2.2.2.2.2.2.2.2.2.2.2.2.2.2.1, y.1.2.2.2.2.2.2.2.2.2.2.2.2.2.2.2.2.2.1, y.1.2.2.2.2.2.2.2.2.2.2.2.2.2.2.2.2.2.2.1) y.2.1 },
      { lbl := 16, live := [(1, none), (3, some (.row T40)), (5, none), (9, none), (10, none), (11, none), (42, none), (43, none), (44, none)], ms := [], vs := [.c (.ptr 0 0), .c (.own 1), .c (.ptr 2 0), .c (.sl false T75), .c (.int .i64), .c (.int .i64), .c (.sl false T40), .c (.int .i64), .c (.int .i64)], bs := [.cells 50 [.int .i64, .int .i64, .int .i64, .int .i64, .int .i64, .int .i64, .int .i64, .int .i64, .int .i64, .int .i64, .int .i64, .int .i64, .int .i64, .int .i64, .int .i64, .sl false T75, .sl false (.int .i64), .sl false T117, .sl false T86], .arr T40 .un, .cells 75 [.str, .int .i64, .int .i64, .int .i64, .sl false T40]], f := fun k x y => impl_areParts.l16 k x.2.2.2.1 x.2.2.2.2.1 x.2.2.2.2.2.1 x.2.2.2.2.2.2.1 x.2.2.2.2.2.2.2.1 x.2.2.2.2.2.2.2.2.1 (y.1.1, (y.1.2.1, y.1.2.2.1, y.1.2.2.2.1), y.1.2.2.2.2.1, (y.1.2.2.2.2.2.1, y.1.2.2.2.2.2.2.1, y.1.2.2.2.2.2.2.2.1, y.1.2.2.2.2.2.2.2.2.1, y.1.2.2.2.2.2.2.2.2.2.1, y.1.2.2.2.2.2.2.2.2.2.2.1, y.1.2.2.2.2.2.2.2.2.2.2.2.1), y.1.2.2.2.2.2.2.2.2.2.2.2.2.1, y.1.2.2.2.2.2.2.2.2.2.2.2.2.2.1, y.1.2.2.2.2.2.2.2.2.2.2.2.2.2.2.1, y.1.2.2.2.2.2.2.2.2.2.2.2.2.2.2.2.1, y.1.2.2.2.2.2.2.2.2.2.2.2.2.2.2.2.2.1, y.1.2.2.2.2.2.2.2.2.2.2.2.2.2.2.2.2.2.1, y.1.2.2.2.2.2.2.2.2.2.2.2.2.2.2.2.2.2.2.1) y.2.1 (y.2.2.1.1, y.2.2.1.2.1, (y.2.2.1.2.2.1, y.2.2.1.2.2.2.1), y.2.2.1.2.2.2.2.1) }] { c := fun _ => none, cc := [], ms := [], tn := [], sh := false, fm := [] } rfl 5000 ⟨⟨fun _ _ => rfl, fun k x y => by kernel_rfl⟩, ⟨⟨fun _ _ => rfl, fun k x y => by kernel_rfl⟩, trivial⟩⟩ (fun k x y => by kernel_rfl)

/-! ### loop.example/g00076/impl.isSound$1: function 98 -/
def impl_isSound_1.f (a0 : Int) (c1 : Int) : Option (Bool) := (impl_within.f a0 0 (wrap64 (c1 - 1))).bind fun t1 => (some (!t1))
def impl_isSound_1.c : FnD := { f := 98, sh := false, ps := [.c (.int .i64), .cap (.int .i64)], pb := [], vc := .c (.bool), bs := [], R := Bool, fn := fun _ x y => impl_isSound_1.f x.1 x.2.1, out := fun y => (y, ()), inn := fun d => d.1, inv := fun _ => rfl }
theorem impl_isSound_1.ok : impl_isSound_1.c.OK Try.prog :=
  FnD.of impl_isSound_1.c mix tok (fn := Try.f98) Try.func98 (by kernel_rfl) (fun _ _ => by kernel_rfl) (by kernel_rfl) (by kernel_rfl) [impl_within.c] ⟨impl_within.ok, trivial⟩
    [] { c := fun _ => none, cc := [], ms := [], tn := [], sh := false, fm := [] } rfl 5000 trivial (fun k x y => by kernel_rfl)

/-! ### slices.IndexFunc[[]int,int]: function 136 -/
def slices_IndexFunc_136_98.l4 : Nat → (List Int) → Int → Int → Int → Option (Int)
  | 0, _, _, _, _ => none
  | k + 1, x0, x1_0, x7, x8 => if x8 < x7 then (if 0 ≤ x8 then (if x8 < (x0.length : Int) then ((impl_isSound_1.f (rd x0 x8) x1_0).bind fun t1 => (if t1 = true then (some x8) else (slices_IndexFunc_136_98.l4 k x0 x1_0 x7 (wrap64 (x8 + 1))))) else none) else none) else (some (-1))
def slices_IndexFunc_136_98.f (k : Nat) (a0 : List Int) (p1_0 : Int) : Option (Int) := slices_IndexFunc_136_98.l4 k a0 p1_0 (a0.length : Int) 0
def slices_IndexFunc_136_98.c : FnD := { f := 136, sh := false, ps := [.c (.sl (.int .i64)), .fn 98 [(.int .i64)]], pb := [], vc := .c (.int .i64), bs := [], R := Int, fn := fun k x y => slices_IndexFunc_136_98.f k x.1 x.2.1.1, out := fun y => (y, ()), inn := fun d => d.1, inv := fun _ => rfl }
theorem slices_IndexFunc_136_98.ok : slices_IndexFunc_136_98.c.OK Try.prog :=
  FnD.of slices_IndexFunc_136_98.c mix tok (fn := Try.f136) Try.func136 (by kernel_rfl) (fun _ _ => by kernel_rfl) (by kernel_rfl) (by kernel_rfl) [impl_isSound_1.c] ⟨impl_isSound_1.ok, trivial⟩
    [{ lbl := 4, live := [(0, none), (1, none), (7, none), (8, none)], ms := [], vs := [.c (.sl false (.int .i64)), .c (.fn 98 [(.int .i64)]), .c (.int .i64), .c (.int .i64)], bs := [], f := fun k x y => slices_IndexFunc_136_98.l4 k x.1 x.2.1.1 x.2.2.1 x.2.2.2.1 }] { c := fun _ => none, cc := [], ms := [], tn := [], sh := false, fm := [] } rfl 5000 ⟨⟨fun _ _ => rfl, fun k x y => by kernel_rfl⟩, trivial⟩ (fun k x y => by kernel_rfl)

/-! ### slices.ContainsFunc[[]int,int]: function 97 -/
def slices_ContainsFunc_97_98.f (k : Nat) (a0 : List Int) (p1_0 : Int) : Option (Bool) := (slices_IndexFunc_136_98.f k a0 p1_0).bind fun t1 => (some (decide (t1 ≥ 0)))
def slices_ContainsFunc_97_98.c : FnD := { f := 97, sh := false, ps := [.c (.sl (.int .i64)), .fn 98 [(.int .i64)]], pb := [], vc := .c (.bool), bs := [], R := Bool, fn := fun k x y => slices_ContainsFunc_97_98.f k x.1 x.2.1.1, out := fun y => (y, ()), inn := fun d => d.1, inv := fun _ => rfl }
theorem slices_ContainsFunc_97_98.ok : slices_ContainsFunc_97_98.c.OK Try.prog :=
  FnD.of slices_ContainsFunc_97_98.c mix tok (fn := Try.f97) Try.func97 (by kernel_rfl) (fun _ _ => by kernel_rfl) (by kernel_rfl) (by kernel_rfl) [slices_IndexFunc_136_98.c] ⟨slices_IndexFunc_136_98.ok, trivial⟩
    [] { c := fun _ => none, cc := [], ms := [], tn := [], sh := false, fm := [] } rfl 5000 trivial (fun k x y => by kernel_rfl)

/-! ### loop.example/g00076/impl.isChan: function 101 -/
def impl_isChan.f (a0 : S117) : Option (Bool) := (impl_within.f a0.f1 0 5).bind fun t1 => (if t1 = true then ((impl_within.f a0.f2 0 5).bind fun t2 => (if t2 = true then (if a0.f1 = a0.f2 then (some false) else (if a0.f0 = 0 then (if a0.f3 = 0 then (some true) else (if a0.f0 = 1 then ((impl_within.f a0.f3 1 8).bind fun t3 => (some t3)) else (some false))) else (if a0.f0 = 1 then ((impl_within.f a0.f3 1 8).bind fun t4 => (some t4)) else (some false)))) else (some false))) else (some false))
def impl_isChan.c : FnD := { f := 101, sh := false, ps := [.agg T117], pb := [], vc := .c (.bool), bs := [], R := Bool, fn := fun _ x y => impl_isChan.f x.1, out := fun y => (y, ()), inn := fun d => d.1, inv := fun _ => rfl }
theorem impl_isChan.ok : impl_isChan.c.OK Try.prog :=
  FnD.of impl_isChan.c mix tok (fn := Try.f101) Try.func101 (by kernel_rfl) (fun _ _ => by kernel_rfl) (by kernel_rfl) (by kernel_rfl) [impl_within.c] ⟨impl_within.ok, trivial⟩
    [] { c := fun _ => none, cc := [], ms := [], tn := [], sh := false, fm := [] } rfl 5000 trivial (fun k x y => by kernel_rfl)

/-! ### loop.example/g00076/impl.isSound$2: function 100 -/
def impl_isSound_2.f (a0 : S117) (c1 : Int) : Option (Bool) := (impl_isChan.f a0).bind fun t1 => (if t1 = true then (if a0.f1 ≥ c1 then (some true) else (some (decide (a0.f2 ≥ c1)))) else (some true))
def impl_isSound_2.c : FnD := { f := 100, sh := false, ps := [.agg T117, .cap (.int .i64)], pb := [], vc := .c (.bool), bs := [], R := Bool, fn := fun _ x y => impl_isSound_2.f x.1 x.2.1, out := fun y => (y, ()), inn := fun d => d.1, inv := fun _ => rfl }
theorem impl_isSound_2.ok : impl_isSound_2.c.OK Try.prog :=
  FnD.of impl_isSound_2.c mix tok (fn := Try.f100) Try.func100 (by kernel_rfl) (fun _ _ => by kernel_rfl) (by kernel_rfl) (by kernel_rfl) [impl_isChan.c] ⟨impl_isChan.ok, trivial⟩
    [] { c := fun _ => none, cc := [], ms := [], tn := [], sh := false, fm := [] } rfl 5000 trivial (fun k x y => by kernel_rfl)

/-! ### slices.IndexFunc[[]loop.example/g00076/impl.ChanRow,loop.example/g00076/impl.ChanRow]: function 137 -/
def slices_IndexFunc_137_100.l4 : Nat → (List S117) → Int → Int → Int → Option (Int)
  | 0, _, _, _, _ => none
  | k + 1, x0, x1_0, x7, x8 => if x8 < x7 then (if 0 ≤ x8 then (if x8 < (x0.length : Int) then ((impl_isSound_2.f (rd_T117 x0 x8) x1_0).bind fun t1 => (if t1 = true then (some x8) else (slices_IndexFunc_137_100.l4 k x0 x1_0 x7 (wrap64 (x8 + 1))))) else none) else none) else (some (-1))
def slices_IndexFunc_137_100.f (k : Nat) (a0 : List S117) (p1_0 : Int) : Option (Int) := slices_IndexFunc_137_100.l4 k a0 p1_0 (a0.length : Int) 0
def slices_IndexFunc_137_100.c : FnD := { f := 137, sh := false, ps := [.c (.sl T117), .fn 100 [(.int .i64)]], pb := [], vc := .c (.int .i64), bs := [], R := Int, fn := fun k x y => slices_IndexFunc_137_100.f k x.1 x.2.1.1, out := fun y => (y, ()), inn := fun d => d.1, inv := fun _ => rfl }
theorem slices_IndexFunc_137_100.ok : slices_IndexFunc_137_100.c.OK Try.prog :=
  FnD.of slices_IndexFunc_137_100.c mix tok (fn := Try.f137) Try.func137 (by kernel_rfl) (fun _ _ => by kernel_rfl) (by kernel_rfl) (by kernel_rfl) [impl_isSound_2.c] ⟨impl_isSound_2.ok, trivial⟩
    [{ lbl := 4, live := [(0, none), (1, none), (7, none), (8, none)], ms := [], vs := [.c (.sl false T117), .c (.fn 100 [(.int .i64)]), .c (.int .i64), .c (.int .i64)], bs := [], f := fun k x y => slices_IndexFunc_137_100.l4 k x.1 x.2.1.1 x.2.2.1 x.2.2.2.1 }] { c := fun _ => none, cc := [], ms := [], tn := [], sh := false, fm := [] } rfl 5000 ⟨⟨fun _ _ => rfl, fun k x y => by kernel_rfl⟩, trivial⟩ (fun k x y => by kernel_rfl)

/-! ### slices.ContainsFunc[[]loop.example/g00076/impl.ChanRow,loop.example/g00076/impl.ChanRow]: function 99 -/
def slices_ContainsFunc_99_100.f (k : Nat) (a0 : List S117) (p1_0 : Int) : Option (Bool) := (slices_IndexFunc_137_100.f k a0 p1_0).bind fun t1 => (some (decide (t1 ≥ 0)))
def slices_ContainsFunc_99_100.c : FnD := { f := 99, sh := false, ps := [.c (.sl T117), .fn 100 [(.int .i64)]], pb := [], vc := .c (.bool), bs := [], R := Bool, fn := fun k x y => slices_ContainsFunc_99_100.f k x.1 x.2.1.1, out := fun y => (y, ()), inn := fun d => d.1, inv := fun _ => rfl }
theorem slices_ContainsFunc_99_100.ok : slices_ContainsFunc_99_100.c.OK Try.prog :=
  FnD.of slices_ContainsFunc_99_100.c mix tok (fn := Try.f99) Try.func99 (by kernel_rfl) (fun _ _ => by kernel_rfl) (by kernel_rfl) (by kernel_rfl) [slices_IndexFunc_137_100.c] ⟨slices_IndexFunc_137_100.ok, trivial⟩
    [] { c := fun _ => none, cc := [], ms := [], tn := [], sh := false, fm := [] } rfl 5000 trivial (fun k x y => by kernel_rfl)

/-! ### loop.example/g00076/impl.depthOf: function 138 -/
def impl_depthOf.f (a0 : S117) : Option (Int) := some (mx 1 a0.f3)
def impl_depthOf.c : FnD := { f := 138, sh := false, ps := [.agg T117], pb := [], vc := .c (.int .i64), bs := [], R := Int, fn := fun _ x y => impl_depthOf.f x.1, out := fun y => (y, ()), inn := fun d => d.1, inv := fun _ => rfl }
theorem impl_depthOf.ok : impl_depthOf.c.OK Try.prog :=
  FnD.of impl_depthOf.c mix tok (fn := Try.f138) Try.func138 (by kernel_rfl) (fun _ _ => by kernel_rfl) (by kernel_rfl) (by kernel_rfl) [] trivial
    [] { c := fun _ => none, cc := [], ms := [], tn := [], sh := false, fm := [] } rfl 5000 trivial (fun k x y => by kernel_rfl)

end
end Go.Proofs.Ytgnhojiogkeepaa.PLo
