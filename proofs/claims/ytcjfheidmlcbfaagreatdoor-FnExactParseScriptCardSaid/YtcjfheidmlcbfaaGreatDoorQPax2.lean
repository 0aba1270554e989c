/- Go functions as Lean functions, each with its contract. -/
import Derived.Test.YtcjfheidmlcbfaaGreatDoorQPax1
set_option linter.unusedVariables false
set_option maxRecDepth 100000
namespace Go.Proofs.YtcjfheidmlcbfaaGreatDoor.PPa
open Go Go.Proofs Go.RowKit Go.Proofs.YtcjfheidmlcbfaaGreatDoor.V
noncomputable section
/-! ### loop.example/g00076/spec.l13Slots: function 90 -/
def spec_l13Slots.l10 : Nat → Int → Int → S33 → Option (Bool)
  | 0, _, _, _ => none
  | k + 1, x3, x4, y0 => if x4 < (y0.f10.length : Int) then (if 0 ≤ x4 then (if x4 < (y0.f10.length : Int) then ((spec_l01In.f ((rd_T182 y0.f10 x4).f0) 0 (wrap64 ((y0.f7.length : Int) - 1))).bind fun t2 => (if t2 = true then ((spec_l01In.f ((rd_T182 y0.f10 x4).f1) x3 5000).bind fun t3 => (if t3 = true then ((spec_l01In.f ((rd_T182 y0.f10 x4).f2) (wrap64 ((wrap64 (y0.f4 + y0.f5)) + 1)) 5000).bind fun t4 => (if t4 = true then (if (wrap64 (((rd_T182 y0.f10 x4).f1) + ((rd_T182 y0.f10 x4).f2))) > y0.f6 then (some false) else (spec_l13Slots.l10 k (wrap64 (((rd_T182 y0.f10 x4).f1) + ((rd_T182 y0.f10 x4).f2))) (wrap64 (x4 + 1)) y0)) else (some false))) else (some false))) else (some false))) else none) else none) else (some true)
def spec_l13Slots.f (k : Nat) (a0 : S33) : Option (Bool) := (spec_l01In.f (a0.f10.length : Int) 1 16).bind fun t1 => (if t1 = true then (spec_l13Slots.l10 k 0 0 a0) else (some false))
def spec_l13Slots.c : FnD := { f := 90, sh := false, ps := [.agg T33], pb := [], vc := .c (.bool), bs := [], R := Bool, fn := fun k x y => spec_l13Slots.f k x.1, out := fun y => (y, ()), inn := fun d => d.1, inv := fun _ => rfl }
theorem spec_l13Slots.ok : spec_l13Slots.c.OK Tryz.prog :=
  FnD.of spec_l13Slots.c mix tok (fn := Tryz.f90) Tryz.func90 (by kernel_rfl) (fun _ _ => by kernel_rfl) (by kernel_rfl) (by kernel_rfl) [spec_l01In.c] ⟨spec_l01In.ok, trivial⟩
    [{ lbl := 10, live := [(1, none), (3, none), (4, none)], ms := [], vs := [.c (.ptr 0 0), .c (.int .i64), .c (.int .i64)], bs := [.cells 33 [.int .i64, .int .i64, .int .i64, .int .i64, .int .i64, .int .i64, .int .i64, .int .i64, .int .i64, .int .i64, .int .i64, .int .i64, .int .i64, .int .i64, .int .i64, .sl false T71, .sl false (.int .i64), .sl false T77, .sl false T182]], f := fun k x y => spec_l13Slots.l10 k x.2.1 x.2.2.1 (y.1.1, (y.1.2.1, y.1.2.2.1, y.1.2.2.2.1), y.1.2.2.2.2.1, (y.1.2.2.2.2.2.1, y.1.2.2.2.2.2.2.1, y.1.2.2.2.2.2.2.2.1, y.1.2.2.2.2.2.2.2.2.1, y.1.2.2.2.2.2.2.2.2.2.1, y.1.2.2.2.2.2.2.2.2.2.2.1, y.1.2.2.2.2.2.2.2.2.2.2.2.1), y.1.2.2.2.2.2.2.2.2.2.2.2.2.1, y.1.2.2.2.2.2.2.2.2.2.2.2.2.2.1, y.1.2.2.2.2.2.2.2.2.2.2.2.2.2.2.1, y.1.2.2.2.2.2.2.2.2.2.2.2.2.2.2.2.1, y.1.2.2.2.2.2.2.2.2.2.2.2.2.2.2.2.2.1, y.1.2.2.2.2.2.2.2.2.2.2.2.2.2.2.2.2.2.1, y.1.2.2.2.2.2.2.2.2.2.2.2.2.2.2.2.2.2.2.1) }] { c := fun _ => none, cc := [], ms := [], tn := [], sh := false, fm := [] } rfl 5000 ⟨⟨fun _ _ => rfl, fun k x y => by kernel_rfl⟩, trivial⟩ (fun k x y => by kernel_rfl)

/-! ### loop.example/g00076/spec.Sound: function 32 -/
def spec_Sound.f (k : Nat) (a0 : S33) : Option (Bool) := (spec_l13Head.f k a0).bind fun t1 => (if t1 = true then ((spec_l13Parts.f k a0).bind fun t2 => (if t2 = true then ((spec_l13Chans.f k a0).bind fun t3 => (if t3 = true then ((spec_l13Slots.f k a0).bind fun t4 => (some t4)) else (some false))) else (some false))) else (some false))
def spec_Sound.c : FnD := { f := 32, sh := false, ps := [.agg T33], pb := [], vc := .c (.bool), bs := [], R := Bool, fn := fun k x y => spec_Sound.f k x.1, out := fun y => (y, ()), inn := fun d => d.1, inv := fun _ => rfl }
theorem spec_Sound.ok : spec_Sound.c.OK Tryz.prog :=
  FnD.of spec_Sound.c mix tok (fn := Tryz.f32) Tryz.func32 (by kernel_rfl) (fun _ _ => by kernel_rfl) (by kernel_rfl) (by kernel_rfl) [spec_l13Head.c, spec_l13Parts.c, spec_l13Chans.c, spec_l13Slots.c] ⟨spec_l13Head.ok, ⟨spec_l13Parts.ok, ⟨spec_l13Chans.ok, ⟨spec_l13Slots.ok, trivial⟩⟩⟩⟩
    [] { c := fun _ => none, cc := [], ms := [], tn := [], sh := false, fm := [] } rfl 5000 trivial (fun k x y => by kernel_rfl)

/-! ### loop.example/g00076/spec.l01Lines: function 45 -/
def spec_l01Lines.l12 : Nat → ByteArray → Int → Int → (List ByteArray) → Option ((List ByteArray) × Bool)
  | 0, _, _, _, _ => none
  | k + 1, x0, x5, x6, h0 => if x6 < (x0.size : Int) then (if 0 ≤ x6 then (if x6 < (x0.size : Int) then (if (bt x0 x6) = 10 then (if 0 ≤ x5 then (if x5 ≤ x6 then (if x6 ≤ (x0.size : Int) then (if h0.length + ([(x0.extract x5.toNat x6.toNat)] : List ByteArray).length < 8796093022208 then (spec_l01Lines.l12 k x0 (wrap64 (x6 + 1)) (wrap64 (x6 + 1)) (h0 ++ ([(x0.extract x5.toNat x6.toNat)] : List ByteArray))) else none) else none) else none) else none) else (spec_l01Lines.l12 k x0 x5 (wrap64 (x6 + 1)) h0)) else none) else none) else (if (h0.length : Int) > 600 then (some (([] : List ByteArray), false)) else (some (h0, true)))
def spec_l01Lines.f (k : Nat) (a0 : ByteArray) : Option ((List ByteArray) × Bool) := if (a0.size : Int) > 20000 then (some (([] : List ByteArray), false)) else (if (a0.size : Int) > 0 then (if 0 ≤ (wrap64 ((a0.size : Int) - 1)) then (if (wrap64 ((a0.size : Int) - 1)) < (a0.size : Int) then (if (bt a0 (wrap64 ((a0.size : Int) - 1))) = 10 then (spec_l01Lines.l12 k a0 0 0 ([] : List ByteArray)) else (some (([] : List ByteArray), false))) else none) else none) else (spec_l01Lines.l12 k a0 0 0 ([] : List ByteArray)))
def spec_l01Lines.c : FnD := { f := 45, sh := false, ps := [.c .str], pb := [], vc := .tup [(false, [.own 0]), (false, [.bool])], bs := [.arr .str .un], R := (List ByteArray) × Bool, fn := fun k x y => spec_l01Lines.f k x.1, out := fun y => ((((), ()), (y.2, ()), ()), (y.1, ())), inn := fun d => (d.2.1, d.1.2.1.1), inv := fun _ => rfl }
theorem spec_l01Lines.ok : spec_l01Lines.c.OK Tryz.prog :=
  FnD.of spec_l01Lines.c mix tok (fn := Tryz.f45) Tryz.func45 (by kernel_rfl) (fun _ _ => by kernel_rfl) (by kernel_rfl) (by kernel_rfl) [] trivial
    [{ lbl := 12, live := [(0, none), (4, none), (5, none), (6, none)], ms := [], vs := [.c (.str), .c (.own 0), .c (.int .i64), .c (.int .i64)], bs := [.arr .str .un], f := fun k x y => spec_l01Lines.l12 k x.1 x.2.2.1 x.2.2.2.1 y.1 }] { c := fun _ => none, cc := [], ms := [], tn := [], sh := false, fm := [] } rfl 5000 ⟨⟨fun _ _ => rfl, fun k x y => by kernel_rfl⟩, trivial⟩ (fun k x y => by kernel_rfl)

/-! ### loop.example/g00076/spec.l01Split: function 100 -/
def spec_l01Split.l8 : Nat → ByteArray → Int → Int → (List ByteArray) → Option ((List ByteArray))
  | 0, _, _, _, _ => none
  | k + 1, x0, x4, x5, h0 => if x5 < (x0.size : Int) then (if 0 ≤ x5 then (if x5 < (x0.size : Int) then (if (bt x0 x5) = 32 then (if 0 ≤ x4 then (if x4 ≤ x5 then (if x5 ≤ (x0.size : Int) then (if h0.length + ([(x0.extract x4.toNat x5.toNat)] : List ByteArray).length < 8796093022208 then (spec_l01Split.l8 k x0 (wrap64 (x5 + 1)) (wrap64 (x5 + 1)) (h0 ++ ([(x0.extract x4.toNat x5.toNat)] : List ByteArray))) else none) else none) else none) else none) else (spec_l01Split.l8 k x0 x4 (wrap64 (x5 + 1)) h0)) else none) else none) else (if 0 ≤ x4 then (if x4 ≤ (x0.size : Int) then (if (x0.size : Int) ≤ (x0.size : Int) then (if h0.length + ([(x0.extract x4.toNat (x0.size : Int).toNat)] : List ByteArray).length < 8796093022208 then (some (h0 ++ ([(x0.extract x4.toNat (x0.size : Int).toNat)] : List ByteArray))) else none) else none) else none) else none)
def spec_l01Split.f (k : Nat) (a0 : ByteArray) : Option ((List ByteArray)) := spec_l01Split.l8 k a0 0 0 ([] : List ByteArray)
def spec_l01Split.c : FnD := { f := 100, sh := false, ps := [.c .str], pb := [], vc := .c (.own 0), bs := [.arr .str .un], R := (List ByteArray), fn := fun k x y => spec_l01Split.f k x.1, out := fun y => ((), (y, ())), inn := fun d => d.2.1, inv := fun _ => rfl }
theorem spec_l01Split.ok : spec_l01Split.c.OK Tryz.prog :=
  FnD.of spec_l01Split.c mix tok (fn := Tryz.f100) Tryz.func100 (by kernel_rfl) (fun _ _ => by kernel_rfl) (by kernel_rfl) (by kernel_rfl) [] trivial
    [{ lbl := 8, live := [(0, none), (3, none), (4, none), (5, none)], ms := [], vs := [.c (.str), .c (.own 0), .c (.int .i64), .c (.int .i64)], bs := [.arr .str .un], f := fun k x y => spec_l01Split.l8 k x.1 x.2.2.1 x.2.2.2.1 y.1 }] { c := fun _ => none, cc := [], ms := [], tn := [], sh := false, fm := [] } rfl 5000 ⟨⟨fun _ _ => rfl, fun k x y => by kernel_rfl⟩, trivial⟩ (fun k x y => by kernel_rfl)

/-! ### loop.example/g00076/spec.DecText: function 91 -/
def spec_DecText.l10 : Nat → Int → ByteArray → Int → Option (ByteArray)
  | 0, _, _, _ => none
  | k + 1, x0, x3, x4 => if x4 = 0 then (if x0 < 0 then (if (ByteArray.mk #[45]).size + x3.size ≤ 9223372036854775807 then (some ((ByteArray.mk #[45]) ++ x3)) else none) else (some x3)) else (if (Int.tmod x4 10) < 0 then (if 0 ≤ (wrap64 (0 - (Int.tmod x4 10))) then (if (wrap64 (0 - (Int.tmod x4 10))) ≤ (wrap64 ((wrap64 (0 - (Int.tmod x4 10))) + 1)) then (if (wrap64 ((wrap64 (0 - (Int.tmod x4 10))) + 1)) ≤ ((ByteArray.mk #[48, 49, 50, 51, 52, 53, 54, 55, 56, 57]).size : Int) then (if ((ByteArray.mk #[48, 49, 50, 51, 52, 53, 54, 55, 56, 57]).extract (wrap64 (0 - (Int.tmod x4 10))).toNat (wrap64 ((wrap64 (0 - (Int.tmod x4 10))) + 1)).toNat).size + x3.size ≤ 9223372036854775807 then (spec_DecText.l10 k x0 (((ByteArray.mk #[48, 49, 50, 51, 52, 53, 54, 55, 56, 57]).extract (wrap64 (0 - (Int.tmod x4 10))).toNat (wrap64 ((wrap64 (0 - (Int.tmod x4 10))) + 1)).toNat) ++ x3) (wrap64 (Int.tdiv x4 10))) else none) else none) else none) else none) else (if 0 ≤ (Int.tmod x4 10) then (if (Int.tmod x4 10) ≤ (wrap64 ((Int.tmod x4 10) + 1)) then (if (wrap64 ((Int.tmod x4 10) + 1)) ≤ ((ByteArray.mk #[48, 49, 50, 51, 52, 53, 54, 55, 56, 57]).size : Int) then (if ((ByteArray.mk #[48, 49, 50, 51, 52, 53, 54, 55, 56, 57]).extract (Int.tmod x4 10).toNat (wrap64 ((Int.tmod x4 10) + 1)).toNat).size + x3.size ≤ 9223372036854775807 then (spec_DecText.l10 k x0 (((ByteArray.mk #[48, 49, 50, 51, 52, 53, 54, 55, 56, 57]).extract (Int.tmod x4 10).toNat (wrap64 ((Int.tmod x4 10) + 1)).toNat) ++ x3) (wrap64 (Int.tdiv x4 10))) else none) else none) else none) else none))
def spec_DecText.f (k : Nat) (a0 : Int) : Option (ByteArray) := if a0 = 0 then (some (ByteArray.mk #[48])) else (spec_DecText.l10 k a0 (ByteArray.mk #[]) a0)
def spec_DecText.c : FnD := { f := 91, sh := false, ps := [.c (.int .i64)], pb := [], vc := .c (.str), bs := [], R := ByteArray, fn := fun k x y => spec_DecText.f k x.1, out := fun y => (y, ()), inn := fun d => d.1, inv := fun _ => rfl }
theorem spec_DecText.ok : spec_DecText.c.OK Tryz.prog :=
  FnD.of spec_DecText.c mix tok (fn := Tryz.f91) Tryz.func91 (by kernel_rfl) (fun _ _ => by kernel_rfl) (by kernel_rfl) (by kernel_rfl) [] trivial
    [{ lbl := 10, live := [(0, none), (3, none), (4, none)], ms := [], vs := [.c (.int .i64), .c (.str), .c (.int .i64)], bs := [], f := fun k x y => spec_DecText.l10 k x.1 x.2.1 x.2.2.1 }] { c := fun _ => none, cc := [], ms := [], tn := [], sh := false, fm := [] } rfl 5000 ⟨⟨fun _ _ => rfl, fun k x y => by kernel_rfl⟩, trivial⟩ (fun k x y => by kernel_rfl)

/-! ### loop.example/g00076/spec.DecNum: function 101 -/
def spec_DecNum.l16 : Nat → ByteArray → Int → Int → Int → Int → Option (Int × Bool)
  | 0, _, _, _, _, _ => none
  | k + 1, x0, x1, x6, x7, x8 => if x8 < (x0.size : Int) then (if 0 ≤ x8 then (if x8 < (x0.size : Int) then ((spec_l01In.f (wrap64 ((wrap64 ((bt x0 x8))) - 48)) 0 9).bind fun t2 => (if t2 = true then (spec_DecNum.l16 k x0 x1 x6 (wrap64 ((wrap64 (10 * x7)) + (wrap64 ((wrap64 ((bt x0 x8))) - 48)))) (wrap64 (x8 + 1))) else (some (0, false)))) else none) else none) else (if x6 = 1 then ((spec_DecText.f k (wrap64 (0 - x7))).bind fun t3 => (if t3 = x0 then (if (wrap64 (0 - x7)) > x1 then (some (0, false)) else (if (wrap64 (0 - x7)) < (wrap64 (0 - x1)) then (some (0, false)) else (some ((wrap64 (0 - x7)), true)))) else (some (0, false)))) else ((spec_DecText.f k x7).bind fun t4 => (if t4 = x0 then (if x7 > x1 then (some (0, false)) else (if x7 < (wrap64 (0 - x1)) then (some (0, false)) else (some (x7, true)))) else (some (0, false)))))
def spec_DecNum.f (k : Nat) (a0 : ByteArray) (a1 : Int) : Option (Int × Bool) := (spec_l01In.f a1 0 4294967295).bind fun t1 => (if t1 = true then (if (a0.size : Int) = 0 then (some (0, false)) else (if (a0.size : Int) > 11 then (some (0, false)) else (if 0 < (a0.size : Int) then (if (bt a0 0) = 45 then (spec_DecNum.l16 k a0 a1 1 0 1) else (spec_DecNum.l16 k a0 a1 0 0 0)) else none))) else (some (0, false)))
def spec_DecNum.c : FnD := { f := 101, sh := false, ps := [.c .str, .c (.int .i64)], pb := [], vc := .tup [(false, [.int .i64]), (false, [.bool])], bs := [], R := Int × Bool, fn := fun k x y => spec_DecNum.f k x.1 x.2.1, out := fun y => (((y.1, ()), (y.2, ()), ()), ()), inn := fun d => (d.1.1.1, d.1.2.1.1), inv := fun _ => rfl }
theorem spec_DecNum.ok : spec_DecNum.c.OK Tryz.prog :=
  FnD.of spec_DecNum.c mix tok (fn := Tryz.f101) Tryz.func101 (by kernel_rfl) (fun _ _ => by kernel_rfl) (by kernel_rfl) (by kernel_rfl) [spec_l01In.c, spec_DecText.c] ⟨spec_l01In.ok, ⟨spec_DecText.ok, trivial⟩⟩
    [{ lbl := 16, live := [(0, none), (1, none), (6, none), (7, none), (8, none)], ms := [], vs := [.c (.str), .c (.int .i64), .c (.int .i64), .c (.int .i64), .c (.int .i64)], bs := [], f := fun k x y => spec_DecNum.l16 k x.1 x.2.1 x.2.2.1 x.2.2.2.1 x.2.2.2.2.1 }] { c := fun _ => none, cc := [], ms := [], tn := [], sh := false, fm := [] } rfl 5000 ⟨⟨fun _ _ => rfl, fun k x y => by kernel_rfl⟩, trivial⟩ (fun k x y => by kernel_rfl)

/-! ### loop.example/g00076/spec.l14Named: function 102 -/
def spec_l14Named.l4 : Nat → ByteArray → Int → S33 → Option (Int)
  | 0, _, _, _ => none
  | k + 1, x1, x5, y0 => if x5 < (y0.f7.length : Int) then (if 0 ≤ x5 then (if x5 < (y0.f7.length : Int) then (if (rd_T71 y0.f7 x5).f0 = x1 then (some x5) else (spec_l14Named.l4 k x1 (wrap64 (x5 + 1)) y0)) else none) else none) else (some (-1))
def spec_l14Named.f (k : Nat) (a0 : S33) (a1 : ByteArray) : Option (Int) := spec_l14Named.l4 k a1 0 a0
def spec_l14Named.c : FnD := { f := 102, sh := false, ps := [.agg T33, .c .str], pb := [], vc := .c (.int .i64), bs := [], R := Int, fn := fun k x y => spec_l14Named.f k x.1 x.2.1, out := fun y => (y, ()), inn := fun d => d.1, inv := fun _ => rfl }
theorem spec_l14Named.ok : spec_l14Named.c.OK Tryz.prog :=
  FnD.of spec_l14Named.c mix tok (fn := Tryz.f102) Tryz.func102 (by kernel_rfl) (fun _ _ => by kernel_rfl) (by kernel_rfl) (by kernel_rfl) [] trivial
    [{ lbl := 4, live := [(1, none), (2, none), (5, none)], ms := [], vs := [.c (.str), .c (.ptr 0 0), .c (.int .i64)], bs := [.cells 33 [.int .i64, .int .i64, .int .i64, .int .i64, .int .i64, .int .i64, .int .i64, .int .i64, .int .i64, .int .i64, .int .i64, .int .i64, .int .i64, .int .i64, .int .i64, .sl false T71, .sl false (.int .i64), .sl false T77, .sl false T182]], f := fun k x y => spec_l14Named.l4 k x.1 x.2.2.1 (y.1.1, (y.1.2.1, y.1.2.2.1, y.1.2.2.2.1), y.1.2.2.2.2.1, (y.1.2.2.2.2.2.1, y.1.2.2.2.2.2.2.1, y.1.2.2.2.2.2.2.2.1, y.1.2.2.2.2.2.2.2.2.1, y.1.2.2.2.2.2.2.2.2.2.1, y.1.2.2.2.2.2.2.2.2.2.2.1, y.1.2.2.2.2.2.2.2.2.2.2.2.1), y.1.2.2.2.2.2.2.2.2.2.2.2.2.1, y.1.2.2.2.2.2.2.2.2.2.2.2.2.2.1, y.1.2.2.2.2.2.2.2.2.2.2.2.2.2.2.1, y.1.2.2.2.2.2.2.2.2.2.2.2.2.2.2.2.1, y.1.2.2.2.2.2.2.2.2.2.2.2.2.2.2.2.2.1, y.1.2.2.2.2.2.2.2.2.2.2.2.2.2.2.2.2.2.1, y.1.2.2.2.2.2.2.2.2.2.2.2.2.2.2.2.2.2.2.1) }] { c := fun _ => none, cc := [], ms := [], tn := [], sh := false, fm := [] } rfl 5000 ⟨⟨fun _ _ => rfl, fun k x y => by kernel_rfl⟩, trivial⟩ (fun k x y => by kernel_rfl)

/-! ### loop.example/g00076/spec.l21Line: function 46 -/
def spec_l21Line.f (k : Nat) (a0 : S33) (a1 : ByteArray) : Option (S85 × Int) := (spec_l01Split.f k a1).bind fun t1 => (if 0 < (t1.length : Int) then (if (t1.getD 0 ByteArray.empty) = (ByteArray.mk #[114, 117, 110]) then (if (t1.length : Int) = 2 then (if 1 < (t1.length : Int) then ((spec_DecNum.f k (t1.getD 1 ByteArray.empty) 50000).bind fun t2 => (if t2.2 = true then (if t2.1 < 0 then (some ((⟨0, 0, 0⟩ : S85), 2)) else (some ((⟨0, t2.1, 0⟩ : S85), 0))) else (some ((⟨0, 0, 0⟩ : S85), 2)))) else none) else (if 0 < (t1.length : Int) then (if (t1.getD 0 ByteArray.empty) = (ByteArray.mk #[105, 110, 112, 117, 116]) then (if (t1.length : Int) = 3 then (if 1 < (t1.length : Int) then ((spec_DecNum.f k (t1.getD 1 ByteArray.empty) 7).bind fun t3 => (if 2 < (t1.length : Int) then ((spec_DecNum.f k (t1.getD 2 ByteArray.empty) 4294967295).bind fun t4 => (if t3.2 = true then (if t4.2 = true then (if t3.1 < 0 then (some ((⟨0, 0, 0⟩ : S85), 2)) else (if t4.1 < 0 then (some ((⟨0, 0, 0⟩ : S85), 2)) else (some ((⟨1, t3.1, (IntKind.wrap .u32 (t4.1))⟩ : S85), 0)))) else (some ((⟨0, 0, 0⟩ : S85), 2))) else (some ((⟨0, 0, 0⟩ : S85), 2)))) else none)) else none) else (if 0 < (t1.length : Int) then (if (t1.getD 0 ByteArray.empty) = (ByteArray.mk #[114, 101, 115, 116, 97, 114, 116]) then (if (t1.length : Int) = 2 then (if 1 < (t1.length : Int) then ((spec_l14Named.f k a0 (t1.getD 1 ByteArray.empty)).bind fun t5 => (if t5 < 0 then (some ((⟨0, 0, 0⟩ : S85), 3)) else (some ((⟨2, t5, 0⟩ : S85), 0)))) else none) else (some ((⟨0, 0, 0⟩ : S85), 2))) else (some ((⟨0, 0, 0⟩ : S85), 2))) else none)) else (if 0 < (t1.length : Int) then (if (t1.getD 0 ByteArray.empty) = (ByteArray.mk #[114, 101, 115, 116, 97, 114, 116]) then (if (t1.length : Int) = 2 then (if 1 < (t1.length : Int) then ((spec_l14Named.f k a0 (t1.getD 1 ByteArray.empty)).bind fun t6 => (if t6 < 0 then (some ((⟨0, 0, 0⟩ : S85), 3)) else (some ((⟨2, t6, 0⟩ : S85), 0)))) else none) else (some ((⟨0, 0, 0⟩ : S85), 2))) else (some ((⟨0, 0, 0⟩ : S85), 2))) else none)) else none)) else (if 0 < (t1.length : Int) then (if (t1.getD 0 ByteArray.empty) = (ByteArray.mk #[105, 110, 112, 117, 116]) then (if (t1.length : Int) = 3 then (if 1 < (t1.length : Int) then ((spec_DecNum.f k (t1.getD 1 ByteArray.empty) 7).bind fun t7 => (if 2 < (t1.length : Int) then ((spec_DecNum.f k (t1.getD 2 ByteArray.empty) 4294967295).bind fun t8 => (if t7.2 = true then (if t8.2 = true then (if t7.1 < 0 then (some ((⟨0, 0, 0⟩ : S85), 2)) else (if t8.1 < 0 then (some ((⟨0, 0, 0⟩ : S85), 2)) else (some ((⟨1, t7.1, (IntKind.wrap .u32 (t8.1))⟩ : S85), 0)))) else (some ((⟨0, 0, 0⟩ : S85), 2))) else (some ((⟨0, 0, 0⟩ : S85), 2)))) else none)) else none) else (if 0 < (t1.length : Int) then (if (t1.getD 0 ByteArray.empty) = (ByteArray.mk #[114, 101, 115, 116, 97, 114, 116]) then (if (t1.length : Int) = 2 then (if 1 < (t1.length : Int) then ((spec_l14Named.f k a0 (t1.getD 1 ByteArray.empty)).bind fun t9 => (if t9 < 0 then (some ((⟨0, 0, 0⟩ : S85), 3)) else (some ((⟨2, t9, 0⟩ : S85), 0)))) else none) else (some ((⟨0, 0, 0⟩ : S85), 2))) else (some ((⟨0, 0, 0⟩ : S85), 2))) else none)) else (if 0 < (t1.length : Int) then (if (t1.getD 0 ByteArray.empty) = (ByteArray.mk #[114, 101, 115, 116, 97, 114, 116]) then (if (t1.length : Int) = 2 then (if 1 < (t1.length : Int) then ((spec_l14Named.f k a0 (t1.getD 1 ByteArray.empty)).bind fun t10 => (if t10 < 0 then (some ((⟨0, 0, 0⟩ : S85), 3)) else (some ((⟨2, t10, 0⟩ : S85), 0)))) else none) else (some ((⟨0, 0, 0⟩ : S85), 2))) else (some ((⟨0, 0, 0⟩ : S85), 2))) else none)) else none)) else none)
def spec_l21Line.c : FnD := { f := 46, sh := false, ps := [.agg T33, .c .str], pb := [], vc := .tup [(true, [.int .i64, .int .i64, .int .u32]), (false, [.int .i64])], bs := [], R := S85 × Int, fn := fun k x y => spec_l21Line.f k x.1 x.2.1, out := fun y => (((y.1.1, y.1.2.1, y.1.2.2, ()), (y.2, ()), ()), ()), inn := fun d => ((d.1.1.1, d.1.1.2.1, d.1.1.2.2.1), d.1.2.1.1), inv := fun _ => rfl }
theorem spec_l21Line.ok : spec_l21Line.c.OK Tryz.prog :=
  FnD.of spec_l21Line.c mix tok (fn := Tryz.f46) Tryz.func46 (by kernel_rfl) (fun _ _ => by kernel_rfl) (by kernel_rfl) (by kernel_rfl) [spec_l01Split.c, spec_DecNum.c, spec_l14Named.c] ⟨spec_l01Split.ok, ⟨spec_DecNum.ok, ⟨spec_l14Named.ok, trivial⟩⟩⟩
    [] { c := fun _ => none, cc := [], ms := [], tn := [], sh := false, fm := [] } rfl 5000 trivial (fun k x y => by kernel_rfl)

/-! ### loop.example/g00076/spec.ParseScript: function 17 -/
mutual
def spec_ParseScript.l16 : Nat → Int → S33 → (List ByteArray) → (List S85) → Option ((List S85) × Int × Int)
  | 0, _, _, _, _ => none
  | k + 1, x10, y0, h1, h2 => if x10 < (h1.length : Int) then (if 0 ≤ x10 then (if x10 < (h1.length : Int) then (sameO ((spec_l21Line.f k y0 (rd_str h1 x10)).bind fun t3 => (spec_ParseScript.l23 k x10 t3.2 y0 h1 h2 t3.1)) ((spec_l21Line.f k y0 (rd_str h1 x10)).bind fun t3 => (spec_ParseScript.l23 k x10 t3.2 y0 h1 h2 t3.1))) else none) else none) else (some (h2, 0, 0))
def spec_ParseScript.l23 : Nat → Int → Int → S33 → (List ByteArray) → (List S85) → S85 → Option ((List S85) × Int × Int)
  | 0, _, _, _, _, _, _ => none
  | k + 1, x10, x12, y0, h1, h2, y3 => if x12 = 0 then (if (h2.length : Int) ≥ 300 then (if 4 = 0 then (if h2.length + ([y3] : List S85).length < 5864062014805 then (spec_ParseScript.l16 k (wrap64 (x10 + 1)) y0 h1 (h2 ++ ([y3] : List S85))) else none) else (some (([] : List S85), 4, (wrap64 (x10 + 1))))) else (if x12 = 0 then (if h2.length + ([y3] : List S85).length < 5864062014805 then (spec_ParseScript.l16 k (wrap64 (x10 + 1)) y0 h1 (h2 ++ ([y3] : List S85))) else none) else (some (([] : List S85), x12, (wrap64 (x10 + 1)))))) else (if x12 = 0 then (if h2.length + ([y3] : List S85).length < 5864062014805 then (spec_ParseScript.l16 k (wrap64 (x10 + 1)) y0 h1 (h2 ++ ([y3] : List S85))) else none) else (some (([] : List S85), x12, (wrap64 (x10 + 1)))))
end
def spec_ParseScript.f (k : Nat) (a0 : S33) (a1 : ByteArray) : Option ((List S85) × Int × Int) := (spec_Sound.f k a0).bind fun t1 => (if t1 = true then ((spec_l01Lines.f k a1).bind fun t2 => (if t2.2 = true then (spec_ParseScript.l16 k 0 a0 t2.1 ([] : List S85)) else (some (([] : List S85), 1, 0)))) else (some (([] : List S85), 5, 0)))
def spec_ParseScript.c : FnD := { f := 17, sh := false, ps := [.agg T33, .c .str], pb := [], vc := .tup [(false, [.own 0]), (false, [.int .i64]), (false, [.int .i64])], bs := [.arr T85 .un], R := (List S85) × Int × Int, fn := fun k x y => spec_ParseScript.f k x.1 x.2.1, out := fun y => ((((), ()), (y.2.1, ()), (y.2.2, ()), ()), (y.1, ())), inn := fun d => (d.2.1, d.1.2.1.1, d.1.2.2.1.1), inv := fun _ => rfl }
theorem spec_ParseScript.ok : spec_ParseScript.c.OK Tryz.prog :=
  FnD.of spec_ParseScript.c mix tok (fn := Tryz.f17) Tryz.func17 (by kernel_rfl) (fun _ _ => by kernel_rfl) (by kernel_rfl) (by kernel_rfl) [spec_Sound.c, spec_l01Lines.c, spec_l21Line.c] ⟨spec_Sound.ok, ⟨spec_l01Lines.ok, ⟨spec_l21Line.ok, trivial⟩⟩⟩
    [{ lbl := 16, live := [(2, none), (7, none), (9, none), (10, none)], ms := [], vs := [.c (.ptr 0 0), .c (.own 1), .c (.own 2), .c (.int .i64)], bs := [.cells 33 [.int .i64, .int .i64, .int .i64, .int .i64, .int .i64, .int .i64, .int .i64, .int .i64, .int .i64, .int .i64, .int .i64, .int .i64, .int .i64, .int .i64, .int .i64, .sl false T71, .sl false (.int .i64), .sl false T77, .sl false T182], .arr .str .un, .arr T85 .un], f := fun k x y => spec_ParseScript.l16 k x.2.2.2.1 (y.1.1, (y.1.2.1, y.1.2.2.1, y.1.2.2.2.1), y.1.2.2.2.2.1, (y.1.2.2.2.2.2.1, y.1.2.2.2.2.2.2.1, y.1.2.2.2.2.2.2.2.1, y.1.2.2.2.2.2.2.2.2.1, y.1.2.2.2.2.2.2.2.2.2.1, y.1.2.2.2.2.2.2.2.2.2.2.1, y.1.2.2.2.2.2.2.2.2.2.2.2.1), y.1.2.2.2.2.2.2.2.2.2.2.2.2.1, y.1.2.2.2.2.2.2.2.2.2.2.2.2.2.1, y.1.2.2.2.2.2.2.2.2.2.2.2.2.2.2.1, y.1.2.2.2.2.2.2.2.2.2.2.2.2.2.2.2.1, y.1.2.2.2.2.2.2.2.2.2.2.2.2.2.2.2.2.1, y.1.2.2.2.2.2.2.2.2.2.2.2.2.2.2.2.2.2.1, y.1.2.2.2.2.2.2.2.2.2.2.2.2.2.2.2.2.2.2.1) y.2.1 y.2.2.1 },
      { lbl := 23, live := [(2, none), (7, none), (9, none), (10, none), (11, none), (12, none)], ms := [], vs := [.c (.ptr 0 0), .c (.own 1), .c (.own 2), .c (.int .i64), .c (.ptr 3 0), .c (.int .i64)], bs := [.cells 33 [.int .i64, .int .i64, .int .i64, .int .i64, .int .i64, .int .i64, .int .i64, .int .i64, .int .i64, .int .i64, .int .i64, .int .i64, .int .i64, .int .i64, .int .i64, .sl false T71, .sl false (.int .i64), .sl false T77, .sl false T182], .arr .str .un, .arr T85 .un, .cells 85 [.int .i64, .int .i64, .int .u32]], f := fun k x y => spec_ParseScript.l23 k x.2.2.2.1 x.2.2.2.2.2.1 (y.1.1, (y.1.2.1, y.1.2.2.1, y.1.2.2.2.1), y.1.2.2.2.2.1, (y.1.2.2.2.2.2.1, y.1.2.2.2.2.2.2.1, y.1.2.2.2.2.2.2.2.1, y.1.2.2.2.2.2.2.2.2.1, y.1.2.2.2.2.2.2.2.2.2.1, y.1.2.2.2.2.2.2.2.2.2.2.1, y.1.2.2.2.2.2.2.2.2.2.2.2.1), y.1.2.2.2.2.2.2.2.2.2.2.2.2.1, y.1.2.2.2.2.2.2.2.2.2.2.2.2.2.1, y.1.2.2.2.2.2.2.2.2.2.2.2.2.2.2.1, y.1.2.2.2.2.2.2.2.2.2.2.2.2.2.2.2.1, y.1.2.2.2.2.2.2.2.2.2.2.2.2.2.2.2.2.1, y.1.2.2.2.2.2.2.2.2.2.2.2.2.2.2.2.2.2.1, y.1.2.2.2.2.2.2.2.2.2.2.2.2.2.2.2.2.2.2.1) y.2.1 y.2.2.1 (y.2.2.2.1.1, y.2.2.2.1.2.1, y.2.2.2.1.2.2.1) }] { c := fun _ => none, cc := [], ms := [], tn := [], sh := false, fm := [] } rfl 5000 ⟨⟨fun _ _ => rfl, fun k x y => by kernel_rfl⟩, ⟨⟨fun _ _ => rfl, fun k x y => by kernel_rfl⟩, trivial⟩⟩ (fun k x y => by kernel_rfl)

/-! ### loop.example/g00076/impl.within: function 70 -/
def impl_within.f (a0 : Int) (a1 : Int) (a2 : Int) : Option (Bool) := if a0 ≥ a1 then (some (decide (a0 ≤ a2))) else (some false)
def impl_within.c : FnD := { f := 70, sh := false, ps := [.c (.int .i64), .c (.int .i64), .c (.int .i64)], pb := [], vc := .c (.bool), bs := [], R := Bool, fn := fun _ x y => impl_within.f x.1 x.2.1 x.2.2.1, out := fun y => (y, ()), inn := fun d => d.1, inv := fun _ => rfl }
theorem impl_within.ok : impl_within.c.OK Tryz.prog :=
  FnD.of impl_within.c mix tok (fn := Tryz.f70) Tryz.func70 (by kernel_rfl) (fun _ _ => by kernel_rfl) (by kernel_rfl) (by kernel_rfl) [] trivial
    [] { c := fun _ => none, cc := [], ms := [], tn := [], sh := false, fm := [] } rfl 5000 trivial (fun k x y => by kernel_rfl)

/-! ### loop.example/g00076/impl.isMem: function 68 -/
def impl_isMem.f (a0 : Int) : Option (Bool) := (impl_within.f a0 64 2048).bind fun t1 => (if t1 = true then (some (decide ((Int.tmod a0 4) = 0))) else (some false))
def impl_isMem.c : FnD := { f := 68, sh := false, ps := [.c (.int .i64)], pb := [], vc := .c (.bool), bs := [], R := Bool, fn := fun _ x y => impl_isMem.f x.1, out := fun y => (y, ()), inn := fun d => d.1, inv := fun _ => rfl }
theorem impl_isMem.ok : impl_isMem.c.OK Tryz.prog :=
  FnD.of impl_isMem.c mix tok (fn := Tryz.f68) Tryz.func68 (by kernel_rfl) (fun _ _ => by kernel_rfl) (by kernel_rfl) (by kernel_rfl) [impl_within.c] ⟨impl_within.ok, trivial⟩
    [] { c := fun _ => none, cc := [], ms := [], tn := [], sh := false, fm := [] } rfl 5000 trivial (fun k x y => by kernel_rfl)

/-! ### loop.example/g00076/impl.isPower: function 117 -/
def impl_isPower.f (a0 : Int) : Option (Bool) := if a0 > 0 then (some (decide ((bitAnd .i64 a0 (wrap64 (a0 - 1))) = 0))) else (some false)
def impl_isPower.c : FnD := { f := 117, sh := false, ps := [.c (.int .i64)], pb := [], vc := .c (.bool), bs := [], R := Bool, fn := fun _ x y => impl_isPower.f x.1, out := fun y => (y, ()), inn := fun d => d.1, inv := fun _ => rfl }
theorem impl_isPower.ok : impl_isPower.c.OK Tryz.prog :=
  FnD.of impl_isPower.c mix tok (fn := Tryz.f117) Tryz.func117 (by kernel_rfl) (fun _ _ => by kernel_rfl) (by kernel_rfl) (by kernel_rfl) [] trivial
    [] { c := fun _ => none, cc := [], ms := [], tn := [], sh := false, fm := [] } rfl 5000 trivial (fun k x y => by kernel_rfl)

/-! ### loop.example/g00076/impl.isShape: function 69 -/
def impl_isShape.f (a0 : S25) : Option (Bool) := (impl_within.f a0.f0 1 16).bind fun t1 => (if t1 = true then ((impl_isPower.f a0.f0).bind fun t2 => (if t2 = true then ((impl_within.f a0.f1 1 4).bind fun t3 => (if t3 = true then ((impl_within.f a0.f2 4 32).bind fun t4 => (if t4 = true then ((impl_isPower.f a0.f2).bind fun t5 => (some t5)) else (some false))) else (some false))) else (some false))) else (some false))
def impl_isShape.c : FnD := { f := 69, sh := false, ps := [.agg T25], pb := [], vc := .c (.bool), bs := [], R := Bool, fn := fun _ x y => impl_isShape.f x.1, out := fun y => (y, ()), inn := fun d => d.1, inv := fun _ => rfl }
theorem impl_isShape.ok : impl_isShape.c.OK Tryz.prog :=
  FnD.of impl_isShape.c mix tok (fn := Tryz.f69) Tryz.func69 (by kernel_rfl) (fun _ _ => by kernel_rfl) (by kernel_rfl) (by kernel_rfl) [impl_within.c, impl_isPower.c] ⟨impl_within.ok, ⟨impl_isPower.ok, trivial⟩⟩
    [] { c := fun _ => none, cc := [], ms := [], tn := [], sh := false, fm := [] } rfl 5000 trivial (fun k x y => by kernel_rfl)

/-! ### loop.example/g00076/impl.areCosts: function 71 -/
def impl_areCosts.l4 : Nat → Int → Int → Int → Int → Int → Int → Int → S27 → Option (Bool)
  | 0, _, _, _, _, _, _, _, _ => none
  | k + 1, x17_0, x17_1, x17_2, x17_3, x17_4, x17_5, x18, y0 => if x18 < 6 then (if 0 ≤ x18 then (if x18 < ((6 : Nat) : Int) then ((impl_within.f (([x17_0, x17_1, x17_2, x17_3, x17_4, x17_5] : List Int).getD x18.toNat 0) 0 50).bind fun t1 => (if t1 = true then (impl_areCosts.l4 k x17_0 x17_1 x17_2 x17_3 x17_4 x17_5 (wrap64 (x18 + 1)) y0) else (some false))) else none) else none) else ((impl_within.f y0.f0 1 20).bind fun t2 => (some t2))
def impl_areCosts.f (k : Nat) (a0 : S27) : Option (Bool) := impl_areCosts.l4 k a0.f1 a0.f2 a0.f3 a0.f4 a0.f5 a0.f6 0 a0
def impl_areCosts.c : FnD := { f := 71, sh := false, ps := [.agg T27], pb := [], vc := .c (.bool), bs := [], R := Bool, fn := fun k x y => impl_areCosts.f k x.1, out := fun y => (y, ()), inn := fun d => d.1, inv := fun _ => rfl }
theorem impl_areCosts.ok : impl_areCosts.c.OK Tryz.prog :=
  FnD.of impl_areCosts.c mix tok (fn := Tryz.f71) Tryz.func71 (by kernel_rfl) (fun _ _ => by kernel_rfl) (by kernel_rfl) (by kernel_rfl) [impl_within.c] ⟨impl_within.ok, trivial⟩
    [{ lbl := 4, live := [(1, none), (17, none), (18, none)], ms := [], vs := [.c (.ptr 0 0), .agg [.int .i64, .int .i64, .int .i64, .int .i64, .int .i64, .int .i64], .c (.int .i64)], bs := [.cells 27 [.int .i64, .int .i64, .int .i64, .int .i64, .int .i64, .int .i64, .int .i64]], f := fun k x y => impl_areCosts.l4 k x.2.1.1 x.2.1.2.1 x.2.1.2.2.1 x.2.1.2.2.2.1 x.2.1.2.2.2.2.1 x.2.1.2.2.2.2.2.1 x.2.2.1 (y.1.1, y.1.2.1, y.1.2.2.1, y.1.2.2.2.1, y.1.2.2.2.2.1, y.1.2.2.2.2.2.1, y.1.2.2.2.2.2.2.1) }] { c := fun _ => none, cc := [], ms := [], tn := [], sh := false, fm := [] } rfl 5000 ⟨⟨fun _ _ => rfl, fun k x y => by kernel_rfl⟩, trivial⟩ (fun k x y => by kernel_rfl)

/-! ### loop.example/g00076/impl.isSpan: function 72 -/
def impl_isSpan.f (a0 : Int) : Option (Bool) := (impl_within.f a0 1 5000).bind fun t1 => (some t1)
def impl_isSpan.c : FnD := { f := 72, sh := false, ps := [.c (.int .i64)], pb := [], vc := .c (.bool), bs := [], R := Bool, fn := fun _ x y => impl_isSpan.f x.1, out := fun y => (y, ()), inn := fun d => d.1, inv := fun _ => rfl }
theorem impl_isSpan.ok : impl_isSpan.c.OK Tryz.prog :=
  FnD.of impl_isSpan.c mix tok (fn := Tryz.f72) Tryz.func72 (by kernel_rfl) (fun _ _ => by kernel_rfl) (by kernel_rfl) (by kernel_rfl) [impl_within.c] ⟨impl_within.ok, trivial⟩
    [] { c := fun _ => none, cc := [], ms := [], tn := [], sh := false, fm := [] } rfl 5000 trivial (fun k x y => by kernel_rfl)

/-! ### loop.example/g00076/impl.opCost: function 162 -/
def impl_opCost.f (a0 : S27) (a1 : Int) : Option (Int) := if a1 = 9 then (some (wrap64 (a0.f0 + a0.f1))) else (if a1 = 10 then (some (wrap64 (a0.f0 + a0.f1))) else ((impl_within.f a1 15 18).bind fun t1 => (if t1 = true then (some (wrap64 (a0.f0 + a0.f2))) else (if a1 ≥ 25 then (some (wrap64 (a0.f0 + a0.f5))) else (some a0.f0)))))
def impl_opCost.c : FnD := { f := 162, sh := false, ps := [.agg T27, .c (.int .i64)], pb := [], vc := .c (.int .i64), bs := [], R := Int, fn := fun _ x y => impl_opCost.f x.1 x.2.1, out := fun y => (y, ()), inn := fun d => d.1, inv := fun _ => rfl }
theorem impl_opCost.ok : impl_opCost.c.OK Tryz.prog :=
  FnD.of impl_opCost.c mix tok (fn := Tryz.f162) Tryz.func162 (by kernel_rfl) (fun _ _ => by kernel_rfl) (by kernel_rfl) (by kernel_rfl) [impl_within.c] ⟨impl_within.ok, trivial⟩
    [] { c := fun _ => none, cc := [], ms := [], tn := [], sh := false, fm := [] } rfl 5000 trivial (fun k x y => by kernel_rfl)

/-! ### loop.example/g00076/impl.accessCost: function 163 -/
def impl_accessCost.f (a0 : S27) (a1 : S233) : Option (Int) := if a1.f0 = true then (if a1.f1 = true then (if a1.f2 = true then (some (wrap64 (0 + a0.f6))) else (some 0)) else (if a1.f2 = true then (some (wrap64 ((wrap64 (0 + a0.f4)) + a0.f6))) else (some (wrap64 (0 + a0.f4))))) else (if a1.f1 = true then (if a1.f2 = true then (some (wrap64 ((wrap64 (0 + a0.f3)) + a0.f6))) else (some (wrap64 (0 + a0.f3)))) else (if a1.f2 = true then (some (wrap64 ((wrap64 ((wrap64 (0 + a0.f3)) + a0.f4)) + a0.f6))) else (some (wrap64 ((wrap64 (0 + a0.f3)) + a0.f4)))))
def impl_accessCost.c : FnD := { f := 163, sh := false, ps := [.agg T27, .agg T233], pb := [], vc := .c (.int .i64), bs := [], R := Int, fn := fun _ x y => impl_accessCost.f x.1 x.2.1, out := fun y => (y, ()), inn := fun d => d.1, inv := fun _ => rfl }
theorem impl_accessCost.ok : impl_accessCost.c.OK Tryz.prog :=
  FnD.of impl_accessCost.c mix tok (fn := Tryz.f163) Tryz.func163 (by kernel_rfl) (fun _ _ => by kernel_rfl) (by kernel_rfl) (by kernel_rfl) [] trivial
    [] { c := fun _ => none, cc := [], ms := [], tn := [], sh := false, fm := [] } rfl 5000 trivial (fun k x y => by kernel_rfl)

/-! ### loop.example/g00076/impl.WorstStep: function 118 -/
def impl_WorstStep.l10 : Nat → Int → Int → S27 → Option (Int)
  | 0, _, _, _ => none
  | k + 1, x3, x8, y0 => if x8 < 33 then ((impl_opCost.f y0 x8).bind fun t2 => (impl_WorstStep.l10 k (mx x3 t2) (wrap64 (x8 + 1)) y0)) else ((impl_accessCost.f y0 (⟨false, false, true⟩ : S233)).bind fun t3 => (some (wrap64 ((wrap64 (x3 + (wrap64 (2 * t3)))) + y0.f5))))
def impl_WorstStep.f (k : Nat) (a0 : S27) : Option (Int) := (impl_areCosts.f k a0).bind fun t1 => (if t1 = true then (impl_WorstStep.l10 k 0 0 a0) else (some (-1)))
def impl_WorstStep.c : FnD := { f := 118, sh := false, ps := [.agg T27], pb := [], vc := .c (.int .i64), bs := [], R := Int, fn := fun k x y => impl_WorstStep.f k x.1, out := fun y => (y, ()), inn := fun d => d.1, inv := fun _ => rfl }
theorem impl_WorstStep.ok : impl_WorstStep.c.OK Tryz.prog :=
  FnD.of impl_WorstStep.c mix tok (fn := Tryz.f118) Tryz.func118 (by kernel_rfl) (fun _ _ => by kernel_rfl) (by kernel_rfl) (by kernel_rfl) [impl_areCosts.c, impl_opCost.c, impl_accessCost.c] ⟨impl_areCosts.ok, ⟨impl_opCost.ok, ⟨impl_accessCost.ok, trivial⟩⟩⟩
    [{ lbl := 10, live := [(1, none), (3, none), (8, none)], ms := [], vs := [.c (.ptr 0 0), .c (.int .i64), .c (.int .i64)], bs := [.cells 27 [.int .i64, .int .i64, .int .i64, .int .i64, .int .i64, .int .i64, .int .i64]], f := fun k x y => impl_WorstStep.l10 k x.2.1 x.2.2.1 (y.1.1, y.1.2.1, y.1.2.2.1, y.1.2.2.2.1, y.1.2.2.2.2.1, y.1.2.2.2.2.2.1, y.1.2.2.2.2.2.2.1) }] { c := fun _ => none, cc := [], ms := [], tn := [], sh := false, fm := [] } rfl 5000 ⟨⟨fun _ _ => rfl, fun k x y => by kernel_rfl⟩, trivial⟩ (fun k x y => by kernel_rfl)

/-! ### loop.example/g00076/impl.worstStep: function 73 -/
def impl_worstStep.f (k : Nat) (a0 : S27) : Option (Int) := (impl_WorstStep.f k a0).bind fun t1 => (some t1)
def impl_worstStep.c : FnD := { f := 73, sh := false, ps := [.agg T27], pb := [], vc := .c (.int .i64), bs := [], R := Int, fn := fun k x y => impl_worstStep.f k x.1, out := fun y => (y, ()), inn := fun d => d.1, inv := fun _ => rfl }
theorem impl_worstStep.ok : impl_worstStep.c.OK Tryz.prog :=
  FnD.of impl_worstStep.c mix tok (fn := Tryz.f73) Tryz.func73 (by kernel_rfl) (fun _ _ => by kernel_rfl) (by kernel_rfl) (by kernel_rfl) [impl_WorstStep.c] ⟨impl_WorstStep.ok, trivial⟩
    [] { c := fun _ => none, cc := [], ms := [], tn := [], sh := false, fm := [] } rfl 5000 trivial (fun k x y => by kernel_rfl)

/-! ### loop.example/g00076/impl.isLabel: function 164 -/
def impl_isLabel.l4 : Nat → ByteArray → Int → Int → Option (Bool)
  | 0, _, _, _ => none
  | k + 1, x0, x5, x6 => if x6 < x5 then (if 0 ≤ x6 then (if x6 < (x0.size : Int) then (if (bt x0 x6) < 97 then (some false) else (if 0 ≤ x6 then (if x6 < (x0.size : Int) then (if (bt x0 x6) > 122 then (some false) else (impl_isLabel.l4 k x0 x5 (wrap64 (x6 + 1)))) else none) else none)) else none) else none) else ((impl_within.f (x0.size : Int) 1 12).bind fun t1 => (some t1))
def impl_isLabel.f (k : Nat) (a0 : ByteArray) : Option (Bool) := impl_isLabel.l4 k a0 (a0.size : Int) 0
def impl_isLabel.c : FnD := { f := 164, sh := false, ps := [.c .str], pb := [], vc := .c (.bool), bs := [], R := Bool, fn := fun k x y => impl_isLabel.f k x.1, out := fun y => (y, ()), inn := fun d => d.1, inv := fun _ => rfl }
theorem impl_isLabel.ok : impl_isLabel.c.OK Tryz.prog :=
  FnD.of impl_isLabel.c mix tok (fn := Tryz.f164) Tryz.func164 (by kernel_rfl) (fun _ _ => by kernel_rfl) (by kernel_rfl) (by kernel_rfl) [impl_within.c] ⟨impl_within.ok, trivial⟩
    [{ lbl := 4, live := [(0, none), (5, none), (6, none)], ms := [], vs := [.c (.str), .c (.int .i64), .c (.int .i64)], bs := [], f := fun k x y => impl_isLabel.l4 k x.1 x.2.1 x.2.2.1 }] { c := fun _ => none, cc := [], ms := [], tn := [], sh := false, fm := [] } rfl 5000 ⟨⟨fun _ _ => rfl, fun k x y => by kernel_rfl⟩, trivial⟩ (fun k x y => by kernel_rfl)

/-! ### loop.example/g00076/impl.isName: function 119 -/
def impl_isName.f (k : Nat) (a0 : ByteArray) : Option (Bool) := (impl_isLabel.f k a0).bind fun t1 => (if t1 = true then (some (decide ((a0.size : Int) ≤ 8))) else (some false))
def impl_isName.c : FnD := { f := 119, sh := false, ps := [.c .str], pb := [], vc := .c (.bool), bs := [], R := Bool, fn := fun k x y => impl_isName.f k x.1, out := fun y => (y, ()), inn := fun d => d.1, inv := fun _ => rfl }
theorem impl_isName.ok : impl_isName.c.OK Tryz.prog :=
  FnD.of impl_isName.c mix tok (fn := Tryz.f119) Tryz.func119 (by kernel_rfl) (fun _ _ => by kernel_rfl) (by kernel_rfl) (by kernel_rfl) [impl_isLabel.c] ⟨impl_isLabel.ok, trivial⟩
    [] { c := fun _ => none, cc := [], ms := [], tn := [], sh := false, fm := [] } rfl 5000 trivial (fun k x y => by kernel_rfl)

/-! ### loop.example/g00076/impl.partNamed$1: function 148 -/
def impl_partNamed_1.f (a0 : S71) (c1 : ByteArray) : Option (Bool) := some (decide (a0.f0 = c1))
def impl_partNamed_1.c : FnD := { f := 148, sh := false, ps := [.agg T71, .cap .str], pb := [], vc := .c (.bool), bs := [], R := Bool, fn := fun _ x y => impl_partNamed_1.f x.1 x.2.1, out := fun y => (y, ()), inn := fun d => d.1, inv := fun _ => rfl }
theorem impl_partNamed_1.ok : impl_partNamed_1.c.OK Tryz.prog :=
  FnD.of impl_partNamed_1.c mix tok (fn := Tryz.f148) Tryz.func148 (by kernel_rfl) (fun _ _ => by kernel_rfl) (by kernel_rfl) (by kernel_rfl) [] trivial
    [] { c := fun _ => none, cc := [], ms := [], tn := [], sh := false, fm := [] } rfl 5000 trivial (fun k x y => by kernel_rfl)

/-! ### slices.IndexFunc[[]loop.example/g00076/impl.PartRow,loop.example/g00076/impl.PartRow]: function 147 -/
def slices_IndexFunc_147_148.l4 : Nat → (List S71) → ByteArray → Int → Int → Option (Int)
  | 0, _, _, _, _ => none
  | k + 1, x0, x1_0, x7, x8 => if x8 < x7 then (if 0 ≤ x8 then (if x8 < (x0.length : Int) then ((impl_partNamed_1.f (rd_T71 x0 x8) x1_0).bind fun t1 => (if t1 = true then (some x8) else (slices_IndexFunc_147_148.l4 k x0 x1_0 x7 (wrap64 (x8 + 1))))) else none) else none) else (some (-1))
def slices_IndexFunc_147_148.f (k : Nat) (a0 : List S71) (p1_0 : ByteArray) : Option (Int) := slices_IndexFunc_147_148.l4 k a0 p1_0 (a0.length : Int) 0
def slices_IndexFunc_147_148.c : FnD := { f := 147, sh := false, ps := [.c (.sl T71), .fn 148 [.str]], pb := [], vc := .c (.int .i64), bs := [], R := Int, fn := fun k x y => slices_IndexFunc_147_148.f k x.1 x.2.1.1, out := fun y => (y, ()), inn := fun d => d.1, inv := fun _ => rfl }
theorem slices_IndexFunc_147_148.ok : slices_IndexFunc_147_148.c.OK Tryz.prog :=
  FnD.of slices_IndexFunc_147_148.c mix tok (fn := Tryz.f147) Tryz.func147 (by kernel_rfl) (fun _ _ => by kernel_rfl) (by kernel_rfl) (by kernel_rfl) [impl_partNamed_1.c] ⟨impl_partNamed_1.ok, trivial⟩
    [{ lbl := 4, live := [(0, none), (1, none), (7, none), (8, none)], ms := [], vs := [.c (.sl false T71), .c (.fn 148 [.str]), .c (.int .i64), .c (.int .i64)], bs := [], f := fun k x y => slices_IndexFunc_147_148.l4 k x.1 x.2.1.1 x.2.2.1 x.2.2.2.1 }] { c := fun _ => none, cc := [], ms := [], tn := [], sh := false, fm := [] } rfl 5000 ⟨⟨fun _ _ => rfl, fun k x y => by kernel_rfl⟩, trivial⟩ (fun k x y => by kernel_rfl)

/-! ### loop.example/g00076/impl.partNamed: function 97 -/
def impl_partNamed.f (k : Nat) (a0 : S33) (a1 : ByteArray) : Option (Int) := (slices_IndexFunc_147_148.f k a0.f7 a1).bind fun t1 => (some t1)
def impl_partNamed.c : FnD := { f := 97, sh := false, ps := [.agg T33, .c .str], pb := [], vc := .c (.int .i64), bs := [], R := Int, fn := fun k x y => impl_partNamed.f k x.1 x.2.1, out := fun y => (y, ()), inn := fun d => d.1, inv := fun _ => rfl }
theorem impl_partNamed.ok : impl_partNamed.c.OK Tryz.prog :=
  FnD.of impl_partNamed.c mix tok (fn := Tryz.f97) Tryz.func97 (by kernel_rfl) (fun _ _ => by kernel_rfl) (by kernel_rfl) (by kernel_rfl) [slices_IndexFunc_147_148.c] ⟨slices_IndexFunc_147_148.ok, trivial⟩
    [] { c := fun _ => none, cc := [], ms := [], tn := [], sh := false, fm := [] } rfl 5000 trivial (fun k x y => by kernel_rfl)

/-! ### loop.example/g00076/impl.isPolicy: function 120 -/
def impl_isPolicy.f (a0 : S68) : Option (Bool) := if a0.f0 = 1 then ((impl_within.f a0.f1 0 100).bind fun t1 => (some t1)) else (if a0.f0 = 0 then (some (decide (a0.f1 = 0))) else (if a0.f0 = 2 then (some (decide (a0.f1 = 0))) else (some false)))
def impl_isPolicy.c : FnD := { f := 120, sh := false, ps := [.agg T68], pb := [], vc := .c (.bool), bs := [], R := Bool, fn := fun _ x y => impl_isPolicy.f x.1, out := fun y => (y, ()), inn := fun d => d.1, inv := fun _ => rfl }
theorem impl_isPolicy.ok : impl_isPolicy.c.OK Tryz.prog :=
  FnD.of impl_isPolicy.c mix tok (fn := Tryz.f120) Tryz.func120 (by kernel_rfl) (fun _ _ => by kernel_rfl) (by kernel_rfl) (by kernel_rfl) [impl_within.c] ⟨impl_within.ok, trivial⟩
    [] { c := fun _ => none, cc := [], ms := [], tn := [], sh := false, fm := [] } rfl 5000 trivial (fun k x y => by kernel_rfl)

/-! ### loop.example/g00076/impl.isWindow: function 121 -/
def impl_isWindow.f (a0 : S66) : Option (Bool) := (impl_within.f a0.f1 4 2048).bind fun t1 => (if t1 = true then (if (Int.tmod a0.f1 4) = 0 then ((impl_within.f a0.f0 0 (wrap64 (2048 - a0.f1))).bind fun t2 => (if t2 = true then (if (Int.tmod a0.f0 4) = 0 then ((impl_within.f a0.f2 1 7).bind fun t3 => (some t3)) else (some false)) else (some false))) else (some false)) else (some false))
def impl_isWindow.c : FnD := { f := 121, sh := false, ps := [.agg T66], pb := [], vc := .c (.bool), bs := [], R := Bool, fn := fun _ x y => impl_isWindow.f x.1, out := fun y => (y, ()), inn := fun d => d.1, inv := fun _ => rfl }
theorem impl_isWindow.ok : impl_isWindow.c.OK Tryz.prog :=
  FnD.of impl_isWindow.c mix tok (fn := Tryz.f121) Tryz.func121 (by kernel_rfl) (fun _ _ => by kernel_rfl) (by kernel_rfl) (by kernel_rfl) [impl_within.c] ⟨impl_within.ok, trivial⟩
    [] { c := fun _ => none, cc := [], ms := [], tn := [], sh := false, fm := [] } rfl 5000 trivial (fun k x y => by kernel_rfl)

/-! ### loop.example/g00076/impl.areApart: function 124 -/
def impl_areApart.f (a0 : S66) (a1 : S66) : Option (Bool) := if (wrap64 (a0.f0 + a0.f1)) ≤ a1.f0 then (some true) else (some (decide ((wrap64 (a1.f0 + a1.f1)) ≤ a0.f0)))
def impl_areApart.c : FnD := { f := 124, sh := false, ps := [.agg T66, .agg T66], pb := [], vc := .c (.bool), bs := [], R := Bool, fn := fun _ x y => impl_areApart.f x.1 x.2.1, out := fun y => (y, ()), inn := fun d => d.1, inv := fun _ => rfl }
theorem impl_areApart.ok : impl_areApart.c.OK Tryz.prog :=
  FnD.of impl_areApart.c mix tok (fn := Tryz.f124) Tryz.func124 (by kernel_rfl) (fun _ _ => by kernel_rfl) (by kernel_rfl) (by kernel_rfl) [] trivial
    [] { c := fun _ => none, cc := [], ms := [], tn := [], sh := false, fm := [] } rfl 5000 trivial (fun k x y => by kernel_rfl)

/-! ### loop.example/g00076/impl.areParts$1: function 123 -/
def impl_areParts_1.f (a0 : S66) (c1 : S66) : Option (Bool) := (impl_areApart.f a0 c1).bind fun t1 => (some (!t1))
def impl_areParts_1.c : FnD := { f := 123, sh := false, ps := [.agg T66, .cap T66], pb := [], vc := .c (.bool), bs := [], R := Bool, fn := fun _ x y => impl_areParts_1.f x.1 x.2.1, out := fun y => (y, ()), inn := fun d => d.1, inv := fun _ => rfl }
theorem impl_areParts_1.ok : impl_areParts_1.c.OK Tryz.prog :=
  FnD.of impl_areParts_1.c mix tok (fn := Tryz.f123) Tryz.func123 (by kernel_rfl) (fun _ _ => by kernel_rfl) (by kernel_rfl) (by kernel_rfl) [impl_areApart.c] ⟨impl_areApart.ok, trivial⟩
    [] { c := fun _ => none, cc := [], ms := [], tn := [], sh := false, fm := [] } rfl 5000 trivial (fun k x y => by kernel_rfl)

/-! ### slices.IndexFunc[[]loop.example/g00076/impl.Window,loop.example/g00076/impl.Window]: function 165 -/
def slices_IndexFunc_165_123.l4 : Nat → (List S66) → S66 → Int → Int → Option (Int)
  | 0, _, _, _, _ => none
  | k + 1, x0, x1_0, x7, x8 => if x8 < x7 then (if 0 ≤ x8 then (if x8 < (x0.length : Int) then ((impl_areParts_1.f (rd_T66 x0 x8) x1_0).bind fun t1 => (if t1 = true then (some x8) else (slices_IndexFunc_165_123.l4 k x0 x1_0 x7 (wrap64 (x8 + 1))))) else none) else none) else (some (-1))
def slices_IndexFunc_165_123.f (k : Nat) (a0 : List S66) (p1_0 : S66) : Option (Int) := slices_IndexFunc_165_123.l4 k a0 p1_0 (a0.length : Int) 0
def slices_IndexFunc_165_123.c : FnD := { f := 165, sh := false, ps := [.c (.sl T66), .fn 123 [T66]], pb := [], vc := .c (.int .i64), bs := [], R := Int, fn := fun k x y => slices_IndexFunc_165_123.f k x.1 x.2.1.1, out := fun y => (y, ()), inn := fun d => d.1, inv := fun _ => rfl }
theorem slices_IndexFunc_165_123.ok : slices_IndexFunc_165_123.c.OK Tryz.prog :=
  FnD.of slices_IndexFunc_165_123.c mix tok (fn := Tryz.f165) Tryz.func165 (by kernel_rfl) (fun _ _ => by kernel_rfl) (by kernel_rfl) (by kernel_rfl) [impl_areParts_1.c] ⟨impl_areParts_1.ok, trivial⟩
    [{ lbl := 4, live := [(0, none), (1, none), (7, none), (8, none)], ms := [], vs := [.c (.sl false T66), .c (.fn 123 [T66]), .c (.int .i64), .c (.int .i64)], bs := [], f := fun k x y => slices_IndexFunc_165_123.l4 k x.1 x.2.1.1 x.2.2.1 x.2.2.2.1 }] { c := fun _ => none, cc := [], ms := [], tn := [], sh := false, fm := [] } rfl 5000 ⟨⟨fun _ _ => rfl, fun k x y => by kernel_rfl⟩, trivial⟩ (fun k x y => by kernel_rfl)

/-! ### slices.ContainsFunc[[]loop.example/g00076/impl.Window,loop.example/g00076/impl.Window]: function 122 -/
def slices_ContainsFunc_122_123.f (k : Nat) (a0 : List S66) (p1_0 : S66) : Option (Bool) := (slices_IndexFunc_165_123.f k a0 p1_0).bind fun t1 => (some (decide (t1 ≥ 0)))
def slices_ContainsFunc_122_123.c : FnD := { f := 122, sh := false, ps := [.c (.sl T66), .fn 123 [T66]], pb := [], vc := .c (.bool), bs := [], R := Bool, fn := fun k x y => slices_ContainsFunc_122_123.f k x.1 x.2.1.1, out := fun y => (y, ()), inn := fun d => d.1, inv := fun _ => rfl }
theorem slices_ContainsFunc_122_123.ok : slices_ContainsFunc_122_123.c.OK Tryz.prog :=
  FnD.of slices_ContainsFunc_122_123.c mix tok (fn := Tryz.f122) Tryz.func122 (by kernel_rfl) (fun _ _ => by kernel_rfl) (by kernel_rfl) (by kernel_rfl) [slices_IndexFunc_165_123.c] ⟨slices_IndexFunc_165_123.ok, trivial⟩
    [] { c := fun _ => none, cc := [], ms := [], tn := [], sh := false, fm := [] } rfl 5000 trivial (fun k x y => by kernel_rfl)

/-! ### loop.example/g00076/impl.windowAt$1: function 194 -/
def impl_windowAt_1.f (a0 : S66) (c1 : Int) : Option (Bool) := if a0.f0 ≤ c1 then (some (decide (c1 < (wrap64 (a0.f0 + a0.f1))))) else (some false)
def impl_windowAt_1.c : FnD := { f := 194, sh := false, ps := [.agg T66, .cap (.int .i64)], pb := [], vc := .c (.bool), bs := [], R := Bool, fn := fun _ x y => impl_windowAt_1.f x.1 x.2.1, out := fun y => (y, ()), inn := fun d => d.1, inv := fun _ => rfl }
theorem impl_windowAt_1.ok : impl_windowAt_1.c.OK Tryz.prog :=
  FnD.of impl_windowAt_1.c mix tok (fn := Tryz.f194) Tryz.func194 (by kernel_rfl) (fun _ _ => by kernel_rfl) (by kernel_rfl) (by kernel_rfl) [] trivial
    [] { c := fun _ => none, cc := [], ms := [], tn := [], sh := false, fm := [] } rfl 5000 trivial (fun k x y => by kernel_rfl)

/-! ### slices.IndexFunc[[]loop.example/g00076/impl.Window,loop.example/g00076/impl.Window]: function 165 -/
def slices_IndexFunc_165_194.l4 : Nat → (List S66) → Int → Int → Int → Option (Int)
  | 0, _, _, _, _ => none
  | k + 1, x0, x1_0, x7, x8 => if x8 < x7 then (if 0 ≤ x8 then (if x8 < (x0.length : Int) then ((impl_windowAt_1.f (rd_T66 x0 x8) x1_0).bind fun t1 => (if t1 = true then (some x8) else (slices_IndexFunc_165_194.l4 k x0 x1_0 x7 (wrap64 (x8 + 1))))) else none) else none) else (some (-1))
def slices_IndexFunc_165_194.f (k : Nat) (a0 : List S66) (p1_0 : Int) : Option (Int) := slices_IndexFunc_165_194.l4 k a0 p1_0 (a0.length : Int) 0
def slices_IndexFunc_165_194.c : FnD := { f := 165, sh := false, ps := [.c (.sl T66), .fn 194 [(.int .i64)]], pb := [], vc := .c (.int .i64), bs := [], R := Int, fn := fun k x y => slices_IndexFunc_165_194.f k x.1 x.2.1.1, out := fun y => (y, ()), inn := fun d => d.1, inv := fun _ => rfl }
theorem slices_IndexFunc_165_194.ok : slices_IndexFunc_165_194.c.OK Tryz.prog :=
  FnD.of slices_IndexFunc_165_194.c mix tok (fn := Tryz.f165) Tryz.func165 (by kernel_rfl) (fun _ _ => by kernel_rfl) (by kernel_rfl) (by kernel_rfl) [impl_windowAt_1.c] ⟨impl_windowAt_1.ok, trivial⟩
    [{ lbl := 4, live := [(0, none), (1, none), (7, none), (8, none)], ms := [], vs := [.c (.sl false T66), .c (.fn 194 [(.int .i64)]), .c (.int .i64), .c (.int .i64)], bs := [], f := fun k x y => slices_IndexFunc_165_194.l4 k x.1 x.2.1.1 x.2.2.1 x.2.2.2.1 }] { c := fun _ => none, cc := [], ms := [], tn := [], sh := false, fm := [] } rfl 5000 ⟨⟨fun _ _ => rfl, fun k x y => by kernel_rfl⟩, trivial⟩ (fun k x y => by kernel_rfl)

/-! ### loop.example/g00076/impl.windowAt: function 166 -/
def impl_windowAt.f (k : Nat) (a0 : List S66) (a1 : Int) : Option (Int) := (slices_IndexFunc_165_194.f k a0 a1).bind fun t1 => (some t1)
def impl_windowAt.c : FnD := { f := 166, sh := false, ps := [.c (.sl T66), .c (.int .i64)], pb := [], vc := .c (.int .i64), bs := [], R := Int, fn := fun k x y => impl_windowAt.f k x.1 x.2.1, out := fun y => (y, ()), inn := fun d => d.1, inv := fun _ => rfl }
theorem impl_windowAt.ok : impl_windowAt.c.OK Tryz.prog :=
  FnD.of impl_windowAt.c mix tok (fn := Tryz.f166) Tryz.func166 (by kernel_rfl) (fun _ _ => by kernel_rfl) (by kernel_rfl) (by kernel_rfl) [slices_IndexFunc_165_194.c] ⟨slices_IndexFunc_165_194.ok, trivial⟩
    [] { c := fun _ => none, cc := [], ms := [], tn := [], sh := false, fm := [] } rfl 5000 trivial (fun k x y => by kernel_rfl)

/-! ### loop.example/g00076/impl.runsAt: function 125 -/
def impl_runsAt.f (k : Nat) (a0 : S71) (a1 : Int) : Option (Bool) := (impl_windowAt.f k a0.f3 a1).bind fun t1 => (if t1 ≥ 0 then (if 0 ≤ t1 then (if t1 < (a0.f3.length : Int) then (some (!(decide ((bitAnd .i64 ((rd_T66 a0.f3 t1).f2) 4) = 0)))) else none) else none) else (some false))
def impl_runsAt.c : FnD := { f := 125, sh := false, ps := [.agg T71, .c (.int .i64)], pb := [], vc := .c (.bool), bs := [], R := Bool, fn := fun k x y => impl_runsAt.f k x.1 x.2.1, out := fun y => (y, ()), inn := fun d => d.1, inv := fun _ => rfl }
theorem impl_runsAt.ok : impl_runsAt.c.OK Tryz.prog :=
  FnD.of impl_runsAt.c mix tok (fn := Tryz.f125) Tryz.func125 (by kernel_rfl) (fun _ _ => by kernel_rfl) (by kernel_rfl) (by kernel_rfl) [impl_windowAt.c] ⟨impl_windowAt.ok, trivial⟩
    [] { c := fun _ => none, cc := [], ms := [], tn := [], sh := false, fm := [] } rfl 5000 trivial (fun k x y => by kernel_rfl)

/-! ### loop.example/g00076/impl.areParts: function 74 -/
mutual
def impl_areParts.l6 : Nat → (List S71) → Int → Int → S33 → (List S66) → Option (Bool)
  | 0, _, _, _, _, _ => none
  | k + 1, x9, x10, x11, y0, h1 => if x11 < x10 then (if 0 ≤ x11 then (if x11 < (x9.length : Int) then ((impl_isName.f k ((rd_T71 x9 x11).f0)).bind fun t1 => (if t1 = true then ((impl_partNamed.f k y0 ((rd_T71 x9 x11).f0)).bind fun t2 => (if t2 < x11 then (some false) else ((impl_isPolicy.f ((rd_T71 x9 x11).f2)).bind fun t3 => (if t3 = true then ((impl_within.f (((rd_T71 x9 x11).f3).length : Int) 1 4).bind fun t4 => (if t4 = true then (impl_areParts.l16 k x9 x10 x11 ((rd_T71 x9 x11).f3) (((rd_T71 x9 x11).f3).length : Int) 0 y0 h1 (rd_T71 x9 x11)) else (some false))) else (some false))))) else (some false))) else none) else none) else (some true)
def impl_areParts.l16 : Nat → (List S71) → Int → Int → (List S66) → Int → Int → S33 → (List S66) → S71 → Option (Bool)
  | 0, _, _, _, _, _, _, _, _, _ => none
  | k + 1, x9, x10, x11, x42, x43, x44, y0, h1, y2 => if x44 < x43 then (if 0 ≤ x44 then (if x44 < (x42.length : Int) then ((impl_isWindow.f (rd_T66 x42 x44)).bind fun t5 => (if t5 = true then (if (wrap64 (((rd_T66 x42 x44).f0) + ((rd_T66 x42 x44).f1))) > y0.f0 then (some false) else ((slices_ContainsFunc_122_123.f k h1 (rd_T66 x42 x44)).bind fun t6 => (if t6 = true then (some false) else (if h1.length + ([(rd_T66 x42 x44)] : List S66).length < 5864062014805 then (impl_areParts.l16 k x9 x10 x11 x42 x43 (wrap64 (x44 + 1)) y0 (h1 ++ ([(rd_T66 x42 x44)] : List S66)) y2) else none)))) else (some false))) else none) else none) else (if (Int.tmod y2.f1 4) = 0 then ((impl_runsAt.f k y2 y2.f1).bind fun t7 => (if t7 = true then (impl_areParts.l6 k x9 x10 (wrap64 (x11 + 1)) y0 h1) else (some false))) else (some false))
end
def impl_areParts.f (k : Nat) (a0 : S33) : Option (Bool) := impl_areParts.l6 k a0.f7 (a0.f7.length : Int) 0 a0 ([] : List S66)
def impl_areParts.c : FnD := { f := 74, sh := false, ps := [.agg T33], pb := [], vc := .c (.bool), bs := [], R := Bool, fn := fun k x y => impl_areParts.f k x.1, out := fun y => (y, ()), inn := fun d => d.1, inv := fun _ => rfl }
theorem impl_areParts.ok : impl_areParts.c.OK Tryz.prog :=
  FnD.of impl_areParts.c mix tok (fn := Tryz.f74) Tryz.func74 (by kernel_rfl) (fun _ _ => by kernel_rfl) (by kernel_rfl) (by kernel_rfl) [impl_isName.c, impl_partNamed.c, impl_isPolicy.c, impl_within.c, impl_isWindow.c, slices_ContainsFunc_122_123.c, impl_runsAt.c] ⟨impl_isName.ok, ⟨impl_partNamed.ok, ⟨impl_isPolicy.ok, ⟨impl_within.ok, ⟨impl_isWindow.ok, ⟨slices_ContainsFunc_122_123.ok, ⟨impl_runsAt.ok, trivial⟩⟩⟩⟩⟩⟩⟩
    [{ lbl := 6, live := [(1, none), (3, some (.row T66)), (9, none), (10, none), (11, none)], ms := [], vs := [.c (.ptr 0 0), .c (.own 1), .c (.sl false T71), .c (.int .i64), .c (.int .i64)], bs := [.cells 33 [.int .i64, .int .i64, .int .i64, .int .i64, .int .i64, .int .i64, .int .i64, .int .i64, .int .i64, .int .i64, .int .i64, .int .i64, .int .i64, .int .i64, .int .i64, .sl false T71, .sl false (.int .i64), .sl false T77, .sl false T182], .arr T66 .un], f := fun k x y => impl_areParts.l6 k x.2.2.1 x.2.2.2.1 x.2.2.2.2.1 (y.1.1, (y.1.2.1, y.1.2.2.1, y.1.2.2.2.1), y.1.2.2.2.2.1, (y.1.2.2.2.2.2.1, y.1.2.2.2.2.2.2.1, y.1.2.2.2.2.2.2.2.1, y.1.2.2.2.2.2.2.2.2.1, y.1.2.2.2.2.2.2.2.2.2.1, y.1.2.2.2.2.2.2.2.2.2.2.1, y.1.2.2.2.2.2.2.2.2.2.2.2.1), y.1.2.2.2.2.2.2.2.2.2.2.2.2.1, y.1.2.2.2.2.2.2.2.2.2.2.2.2.2.1, y.1.2.2.2.2.2.2.2.2.2.2.2.2.2.2.1, y.1.2.2.2.2.2.2.2.2.2.2.2.2.2.2.2.1, y.1.2.2.2.2.2.2.2.2.2.2.2.2.2.2.2.2.1, y.1.2.2.2.2.2.2.2.2.2.2.2.2.2.2.2.2.2.1, y.1.2.2.2.2.2.2.2.2.2.2.2.2.2.2.2.2.2.2.1) y.2.1 },
      { lbl := 16, live := [(1, none), (3, some (.row T66)), (5, none), (9, none), (10, none), (11, none), (42, none), (43, none), (44, none)], ms := [], vs := [.c (.ptr 0 0), .c (.own 1), .c (.ptr 2 0), .c (.sl false T71), .c (.int .i64), .c (.int .i64), .c (.sl false T66), .c (.int .i64), .c (.int .i64)], bs := [.cells 33 [.int .i64, .int .i64, .int .i64, .int .i64, .int .i64, .int .i64, .int .i64, .int .i64, .int .i64, .int .i64, .int .i64, .int .i64, .int .i64, .int .i64, .int .i64, .sl false T71, .sl false (.int .i64), .sl false T77, .sl false T182], .arr T66 .un, .cells 71 [.str, .int .i64, .int .i64, .int .i64, .sl false T66]], f := fun k x y => impl_areParts.l16 k x.2.2.2.1 x.2.2.2.2.1 x.2.2.2.2.2.1 x.2.2.2.2.2.2.1 x.2.2.2.2.2.2.2.1 x.2.2.2.2.2.2.2.2.1 (y.1.1, (y.1.2.1, y.1.2.2.1, y.1.2.2.2.1), y.1.2.2.2.2.1, (y.1.2.2.2.2.2.1, y.1.2.2.2.2.2.2.1, y.1.2.2.2.2.2.2.2.1, y.1.2.2.2.2.2.2.2.2.1, y.1.2.2.2.2.2.2.2.2.2.1, y.1.2.2.2.2.2.2.2.2.2.2.1, y.1.2.2.2.2.2.2.2.2.2.2.2.1), y.1.2.2.2.2.2.2.2.2.2.2.2.2.1, y.1.2.2.2.2.2.2.2.2.2.2.2.2.2.1, y.1.2.2.2.2.2.2.2.2.2.2.2.2.2.2.1, y.1.2.2.2.2.2.2.2.2.2.2.2.2.2.2.2.1, y.1.2.2.2.2.2.2.2.2.2.2.2.2.2.2.2.2.1, y.1.2.2.2.2.2.2.2.2.2.2.2.2.2.2.2.2.2.1, y.1.2.2.2.2.2.2.2.2.2.2.2.2.2.2.2.2.2.2.1) y.2.1 (y.2.2.1.1, y.2.2.1.2.1, (y.2.2.1.2.2.1, y.2.2.1.2.2.2.1), y.2.2.1.2.2.2.2.1) }] { c := fun _ => none, cc := [], ms := [], tn := [], sh := false, fm := [] } rfl 5000 ⟨⟨fun _ _ => rfl, fun k x y => by kernel_rfl⟩, ⟨⟨fun _ _ => rfl, fun k x y => by kernel_rfl⟩, trivial⟩⟩ (fun k x y => by kernel_rfl)

/-! ### loop.example/g00076/impl.isSound$1: function 76 -/
def impl_isSound_1.f (a0 : Int) (c1 : Int) : Option (Bool) := (impl_within.f a0 0 (wrap64 (c1 - 1))).bind fun t1 => (some (!t1))
def impl_isSound_1.c : FnD := { f := 76, sh := false, ps := [.c (.int .i64), .cap (.int .i64)], pb := [], vc := .c (.bool), bs := [], R := Bool, fn := fun _ x y => impl_isSound_1.f x.1 x.2.1, out := fun y => (y, ()), inn := fun d => d.1, inv := fun _ => rfl }
theorem impl_isSound_1.ok : impl_isSound_1.c.OK Tryz.prog :=
  FnD.of impl_isSound_1.c mix tok (fn := Tryz.f76) Tryz.func76 (by kernel_rfl) (fun _ _ => by kernel_rfl) (by kernel_rfl) (by kernel_rfl) [impl_within.c] ⟨impl_within.ok, trivial⟩
    [] { c := fun _ => none, cc := [], ms := [], tn := [], sh := false, fm := [] } rfl 5000 trivial (fun k x y => by kernel_rfl)

/-! ### slices.IndexFunc[[]int,int]: function 126 -/
def slices_IndexFunc_126_76.l4 : Nat → (List Int) → Int → Int → Int → Option (Int)
  | 0, _, _, _, _ => none
  | k + 1, x0, x1_0, x7, x8 => if x8 < x7 then (if 0 ≤ x8 then (if x8 < (x0.length : Int) then ((impl_isSound_1.f (rd x0 x8) x1_0).bind fun t1 => (if t1 = true then (some x8) else (slices_IndexFunc_126_76.l4 k x0 x1_0 x7 (wrap64 (x8 + 1))))) else none) else none) else (some (-1))
def slices_IndexFunc_126_76.f (k : Nat) (a0 : List Int) (p1_0 : Int) : Option (Int) := slices_IndexFunc_126_76.l4 k a0 p1_0 (a0.length : Int) 0
def slices_IndexFunc_126_76.c : FnD := { f := 126, sh := false, ps := [.c (.sl (.int .i64)), .fn 76 [(.int .i64)]], pb := [], vc := .c (.int .i64), bs := [], R := Int, fn := fun k x y => slices_IndexFunc_126_76.f k x.1 x.2.1.1, out := fun y => (y, ()), inn := fun d => d.1, inv := fun _ => rfl }
theorem slices_IndexFunc_126_76.ok : slices_IndexFunc_126_76.c.OK Tryz.prog :=
  FnD.of slices_IndexFunc_126_76.c mix tok (fn := Tryz.f126) Tryz.func126 (by kernel_rfl) (fun _ _ => by kernel_rfl) (by kernel_rfl) (by kernel_rfl) [impl_isSound_1.c] ⟨impl_isSound_1.ok, trivial⟩
    [{ lbl := 4, live := [(0, none), (1, none), (7, none), (8, none)], ms := [], vs := [.c (.sl false (.int .i64)), .c (.fn 76 [(.int .i64)]), .c (.int .i64), .c (.int .i64)], bs := [], f := fun k x y => slices_IndexFunc_126_76.l4 k x.1 x.2.1.1 x.2.2.1 x.2.2.2.1 }] { c := fun _ => none, cc := [], ms := [], tn := [], sh := false, fm := [] } rfl 5000 ⟨⟨fun _ _ => rfl, fun k x y => by kernel_rfl⟩, trivial⟩ (fun k x y => by kernel_rfl)

/-! ### slices.ContainsFunc[[]int,int]: function 75 -/
def slices_ContainsFunc_75_76.f (k : Nat) (a0 : List Int) (p1_0 : Int) : Option (Bool) := (slices_IndexFunc_126_76.f k a0 p1_0).bind fun t1 => (some (decide (t1 ≥ 0)))
def slices_ContainsFunc_75_76.c : FnD := { f := 75, sh := false, ps := [.c (.sl (.int .i64)), .fn 76 [(.int .i64)]], pb := [], vc := .c (.bool), bs := [], R := Bool, fn := fun k x y => slices_ContainsFunc_75_76.f k x.1 x.2.1.1, out := fun y => (y, ()), inn := fun d => d.1, inv := fun _ => rfl }
theorem slices_ContainsFunc_75_76.ok : slices_ContainsFunc_75_76.c.OK Tryz.prog :=
  FnD.of slices_ContainsFunc_75_76.c mix tok (fn := Tryz.f75) Tryz.func75 (by kernel_rfl) (fun _ _ => by kernel_rfl) (by kernel_rfl) (by kernel_rfl) [slices_IndexFunc_126_76.c] ⟨slices_IndexFunc_126_76.ok, trivial⟩
    [] { c := fun _ => none, cc := [], ms := [], tn := [], sh := false, fm := [] } rfl 5000 trivial (fun k x y => by kernel_rfl)

end
end Go.Proofs.YtcjfheidmlcbfaaGreatDoor.PPa
