/- Go functions as Lean functions, each with its contract. -/
import Derived.Test.YtmdnpaekamkknaaGreatDoorQPsx1
set_option linter.unusedVariables false
set_option maxRecDepth 100000
namespace Go.Proofs.YtmdnpaekamkknaaGreatDoor.PPs
open Go Go.Proofs Go.RowKit Go.Proofs.YtmdnpaekamkknaaGreatDoor.V
noncomputable section
/-! ### loop.example/g00076/spec.l13Chans: function 40 -/
mutual
def spec_l13Chans.l8 : Nat → Int → S43 → Option (Bool)
  | 0, _, _ => none
  | k + 1, x3, y0 => if x3 < (y0.f8.length : Int) then (if 0 ≤ x3 then (if x3 < (y0.f8.length : Int) then ((spec_l01In.f (rd y0.f8 x3) 0 (wrap64 ((y0.f7.length : Int) - 1))).bind fun t1 => (if t1 = true then (spec_l13Chans.l8 k (wrap64 (x3 + 1)) y0) else (some false))) else none) else none) else (spec_l13Chans.l18 k 0 y0)
def spec_l13Chans.l18 : Nat → Int → S43 → Option (Bool)
  | 0, _, _ => none
  | k + 1, x4, y0 => if x4 < (y0.f9.length : Int) then (if 0 ≤ x4 then (if x4 < (y0.f9.length : Int) then ((spec_ChanOk.f (rd_T98 y0.f9 x4)).bind fun t2 => (if t2 = true then (if 0 ≤ x4 then (if x4 < (y0.f9.length : Int) then (if (rd_T98 y0.f9 x4).f1 ≥ (y0.f7.length : Int) then (some false) else (if 0 ≤ x4 then (if x4 < (y0.f9.length : Int) then (if (rd_T98 y0.f9 x4).f2 ≥ (y0.f7.length : Int) then (some false) else (spec_l13Chans.l18 k (wrap64 (x4 + 1)) y0)) else none) else none)) else none) else none) else (some false))) else none) else none) else ((spec_WorstPad.f k y0.f3 y0.f1 y0.f9).bind fun t3 => (some (decide (y0.f4 ≥ t3))))
end
def spec_l13Chans.f (k : Nat) (a0 : S43) : Option (Bool) := if (a0.f8.length : Int) > 8 then (some false) else (if (a0.f9.length : Int) > 8 then (some false) else (spec_l13Chans.l8 k 0 a0))
def spec_l13Chans.c : FnD := { f := 40, sh := false, ps := [.agg T43], pb := [], vc := .c (.bool), bs := [], R := Bool, fn := fun k x y => spec_l13Chans.f k x.1, out := fun y => (y, ()), inn := fun d => d.1, inv := fun _ => rfl }
theorem spec_l13Chans.ok : spec_l13Chans.c.OK Tryz.prog :=
  FnD.of spec_l13Chans.c mix tok (fn := Tryz.f40) Tryz.func40 (by kernel_rfl) (fun _ _ => by kernel_rfl) (by kernel_rfl) (by kernel_rfl) [spec_l01In.c, spec_ChanOk.c, spec_WorstPad.c] ⟨spec_l01In.ok, ⟨spec_ChanOk.ok, ⟨spec_WorstPad.ok, trivial⟩⟩⟩
    [{ lbl := 8, live := [(1, none), (3, none)], ms := [], vs := [.c (.ptr 0 0), .c (.int .i64)], bs := [.cells 43 [.int .i64, .int .i64, .int .i64, .int .i64, .int .i64, .int .i64, .int .i64, .int .i64, .int .i64, .int .i64, .int .i64, .int .i64, .int .i64, .int .i64, .int .i64, .sl false T64, .sl false (.int .i64), .sl false T98, .sl false T102]], f := fun k x y => spec_l13Chans.l8 k x.2.1 (y.1.1, (y.1.2.1, y.1.2.2.1, y.1.2.2.2.1), y.1.2.2.2.2.1, (y.1.2.2.2.2.2.1, y.1.2.2.2.2.2.2.1, y.1.2.2.2.2.2.2.2.1, y.1.2.2.2.2.2.2.2.2.1, y.1.2.2.2.2.2.2.2.2.2.1, y.1.2.2.2.2.2.2.2.2.2.2.1, y.1.2.2.2.2.2.2.2.2.2.2.2.1), y.1.2.2.2.2.2.2.2.2.2.2.2.2.1, y.1.2.2.2.2.2.2.2.2.2.2.2.2.2.1, y.1.2.2.2.2.2.2.2.2.2.2.2.2.2.2.1, y.1.2.2.2.2.2.2.2.2.2.2.2.2.2.2.2.1, y.1.2.2.2.2.2.2.2.2.2.2.2.2.2.2.2.2.1, y.1.2.2.2.2.2.2.2.2.2.2.2.2.2.2.2.2.2.1, y.1.2.2.2.2.2.2.2.2.2.2.2.2.2.2.2.2.2.2.1) },
      { lbl := 18, live := [(1, none), (4, none)], ms := [], vs := [.c (.ptr 0 0), .c (.int .i64)], bs := [.cells 43 [.int .i64, .int .i64, .int .i64, .int .i64, .int .i64, .int .i64, .int .i64, .int .i64, .int .i64, .int .i64, .int .i64, .int .i64, .int .i64, .int .i64, .int .i64, .sl false T64, .sl false (.int .i64), .sl false T98, .sl false T102]], f := fun k x y => spec_l13Chans.l18 k x.2.1 (y.1.1, (y.1.2.1, y.1.2.2.1, y.1.2.2.2.1), y.1.2.2.2.2.1, (y.1.2.2.2.2.2.1, y.1.2.2.2.2.2.2.1, y.1.2.2.2.2.2.2.2.1, y.1.2.2.2.2.2.2.2.2.1, y.1.2.2.2.2.2.2.2.2.2.1, y.1.2.2.2.2.2.2.2.2.2.2.1, y.1.2.2.2.2.2.2.2.2.2.2.2.1), y.1.2.2.2.2.2.2.2.2.2.2.2.2.1, y.1.2.2.2.2.2.2.2.2.2.2.2.2.2.1, y.1.2.2.2.2.2.2.2.2.2.2.2.2.2.2.1, y.1.2.2.2.2.2.2.2.2.2.2.2.2.2.2.2.1, y.1.2.2.2.2.2.2.2.2.2.2.2.2.2.2.2.2.1, y.1.2.2.2.2.2.2.2.2.2.2.2.2.2.2.2.2.2.1, y.1.2.2.2.2.2.2.2.2.2.2.2.2.2.2.2.2.2.2.1) }] { c := fun _ => none, cc := [], ms := [], tn := [], sh := false, fm := [] } rfl 5000 ⟨⟨fun _ _ => rfl, fun k x y => by kernel_rfl⟩, ⟨⟨fun _ _ => rfl, fun k x y => by kernel_rfl⟩, trivial⟩⟩ (fun k x y => by kernel_rfl)

/-! ### loop.example/g00076/spec.l13Slots: function 41 -/
def spec_l13Slots.l10 : Nat → Int → Int → S43 → Option (Bool)
  | 0, _, _, _ => none
  | k + 1, x3, x4, y0 => if x4 < (y0.f10.length : Int) then (if 0 ≤ x4 then (if x4 < (y0.f10.length : Int) then ((spec_l01In.f ((rd_T102 y0.f10 x4).f0) 0 (wrap64 ((y0.f7.length : Int) - 1))).bind fun t2 => (if t2 = true then ((spec_l01In.f ((rd_T102 y0.f10 x4).f1) x3 5000).bind fun t3 => (if t3 = true then ((spec_l01In.f ((rd_T102 y0.f10 x4).f2) (wrap64 ((wrap64 (y0.f4 + y0.f5)) + 1)) 5000).bind fun t4 => (if t4 = true then (if (wrap64 (((rd_T102 y0.f10 x4).f1) + ((rd_T102 y0.f10 x4).f2))) > y0.f6 then (some false) else (spec_l13Slots.l10 k (wrap64 (((rd_T102 y0.f10 x4).f1) + ((rd_T102 y0.f10 x4).f2))) (wrap64 (x4 + 1)) y0)) else (some false))) else (some false))) else (some false))) else none) else none) else (some true)
def spec_l13Slots.f (k : Nat) (a0 : S43) : Option (Bool) := (spec_l01In.f (a0.f10.length : Int) 1 16).bind fun t1 => (if t1 = true then (spec_l13Slots.l10 k 0 0 a0) else (some false))
def spec_l13Slots.c : FnD := { f := 41, sh := false, ps := [.agg T43], pb := [], vc := .c (.bool), bs := [], R := Bool, fn := fun k x y => spec_l13Slots.f k x.1, out := fun y => (y, ()), inn := fun d => d.1, inv := fun _ => rfl }
theorem spec_l13Slots.ok : spec_l13Slots.c.OK Tryz.prog :=
  FnD.of spec_l13Slots.c mix tok (fn := Tryz.f41) Tryz.func41 (by kernel_rfl) (fun _ _ => by kernel_rfl) (by kernel_rfl) (by kernel_rfl) [spec_l01In.c] ⟨spec_l01In.ok, trivial⟩
    [{ lbl := 10, live := [(1, none), (3, none), (4, none)], ms := [], vs := [.c (.ptr 0 0), .c (.int .i64), .c (.int .i64)], bs := [.cells 43 [.int .i64, .int .i64, .int .i64, .int .i64, .int .i64, .int .i64, .int .i64, .int .i64, .int .i64, .int .i64, .int .i64, .int .i64, .int .i64, .int .i64, .int .i64, .sl false T64, .sl false (.int .i64), .sl false T98, .sl false T102]], f := fun k x y => spec_l13Slots.l10 k x.2.1 x.2.2.1 (y.1.1, (y.1.2.1, y.1.2.2.1, y.1.2.2.2.1), y.1.2.2.2.2.1, (y.1.2.2.2.2.2.1, y.1.2.2.2.2.2.2.1, y.1.2.2.2.2.2.2.2.1, y.1.2.2.2.2.2.2.2.2.1, y.1.2.2.2.2.2.2.2.2.2.1, y.1.2.2.2.2.2.2.2.2.2.2.1, y.1.2.2.2.2.2.2.2.2.2.2.2.1), y.1.2.2.2.2.2.2.2.2.2.2.2.2.1, y.1.2.2.2.2.2.2.2.2.2.2.2.2.2.1, y.1.2.2.2.2.2.2.2.2.2.2.2.2.2.2.1, y.1.2.2.2.2.2.2.2.2.2.2.2.2.2.2.2.1, y.1.2.2.2.2.2.2.2.2.2.2.2.2.2.2.2.2.1, y.1.2.2.2.2.2.2.2.2.2.2.2.2.2.2.2.2.2.1, y.1.2.2.2.2.2.2.2.2.2.2.2.2.2.2.2.2.2.2.1) }] { c := fun _ => none, cc := [], ms := [], tn := [], sh := false, fm := [] } rfl 5000 ⟨⟨fun _ _ => rfl, fun k x y => by kernel_rfl⟩, trivial⟩ (fun k x y => by kernel_rfl)

/-! ### loop.example/g00076/spec.Sound: function 16 -/
def spec_Sound.f (k : Nat) (a0 : S43) : Option (Bool) := (spec_l13Head.f k a0).bind fun t1 => (if t1 = true then ((spec_l13Parts.f k a0).bind fun t2 => (if t2 = true then ((spec_l13Chans.f k a0).bind fun t3 => (if t3 = true then ((spec_l13Slots.f k a0).bind fun t4 => (some t4)) else (some false))) else (some false))) else (some false))
def spec_Sound.c : FnD := { f := 16, sh := false, ps := [.agg T43], pb := [], vc := .c (.bool), bs := [], R := Bool, fn := fun k x y => spec_Sound.f k x.1, out := fun y => (y, ()), inn := fun d => d.1, inv := fun _ => rfl }
theorem spec_Sound.ok : spec_Sound.c.OK Tryz.prog :=
  FnD.of spec_Sound.c mix tok (fn := Tryz.f16) Tryz.func16 (by kernel_rfl) (fun _ _ => by kernel_rfl) (by kernel_rfl) (by kernel_rfl) [spec_l13Head.c, spec_l13Parts.c, spec_l13Chans.c, spec_l13Slots.c] ⟨spec_l13Head.ok, ⟨spec_l13Parts.ok, ⟨spec_l13Chans.ok, ⟨spec_l13Slots.ok, trivial⟩⟩⟩⟩
    [] { c := fun _ => none, cc := [], ms := [], tn := [], sh := false, fm := [] } rfl 5000 trivial (fun k x y => by kernel_rfl)

/-! ### loop.example/g00076/spec.DecText: function 42 -/
def spec_DecText.l10 : Nat → Int → ByteArray → Int → Option (ByteArray)
  | 0, _, _, _ => none
  | k + 1, x0, x3, x4 => if x4 = 0 then (if x0 < 0 then (if (ByteArray.mk #[45]).size + x3.size ≤ 9223372036854775807 then (some ((ByteArray.mk #[45]) ++ x3)) else none) else (some x3)) else (if (Int.tmod x4 10) < 0 then (if 0 ≤ (wrap64 (0 - (Int.tmod x4 10))) then (if (wrap64 (0 - (Int.tmod x4 10))) ≤ (wrap64 ((wrap64 (0 - (Int.tmod x4 10))) + 1)) then (if (wrap64 ((wrap64 (0 - (Int.tmod x4 10))) + 1)) ≤ ((ByteArray.mk #[48, 49, 50, 51, 52, 53, 54, 55, 56, 57]).size : Int) then (if ((ByteArray.mk #[48, 49, 50, 51, 52, 53, 54, 55, 56, 57]).extract (wrap64 (0 - (Int.tmod x4 10))).toNat (wrap64 ((wrap64 (0 - (Int.tmod x4 10))) + 1)).toNat).size + x3.size ≤ 9223372036854775807 then (spec_DecText.l10 k x0 (((ByteArray.mk #[48, 49, 50, 51, 52, 53, 54, 55, 56, 57]).extract (wrap64 (0 - (Int.tmod x4 10))).toNat (wrap64 ((wrap64 (0 - (Int.tmod x4 10))) + 1)).toNat) ++ x3) (wrap64 (Int.tdiv x4 10))) else none) else none) else none) else none) else (if 0 ≤ (Int.tmod x4 10) then (if (Int.tmod x4 10) ≤ (wrap64 ((Int.tmod x4 10) + 1)) then (if (wrap64 ((Int.tmod x4 10) + 1)) ≤ ((ByteArray.mk #[48, 49, 50, 51, 52, 53, 54, 55, 56, 57]).size : Int) then (if ((ByteArray.mk #[48, 49, 50, 51, 52, 53, 54, 55, 56, 57]).extract (Int.tmod x4 10).toNat (wrap64 ((Int.tmod x4 10) + 1)).toNat).size + x3.size ≤ 9223372036854775807 then (spec_DecText.l10 k x0 (((ByteArray.mk #[48, 49, 50, 51, 52, 53, 54, 55, 56, 57]).extract (Int.tmod x4 10).toNat (wrap64 ((Int.tmod x4 10) + 1)).toNat) ++ x3) (wrap64 (Int.tdiv x4 10))) else none) else none) else none) else none))
def spec_DecText.f (k : Nat) (a0 : Int) : Option (ByteArray) := if a0 = 0 then (some (ByteArray.mk #[48])) else (spec_DecText.l10 k a0 (ByteArray.mk #[]) a0)
def spec_DecText.c : FnD := { f := 42, sh := false, ps := [.c (.int .i64)], pb := [], vc := .c (.str), bs := [], R := ByteArray, fn := fun k x y => spec_DecText.f k x.1, out := fun y => (y, ()), inn := fun d => d.1, inv := fun _ => rfl }
theorem spec_DecText.ok : spec_DecText.c.OK Tryz.prog :=
  FnD.of spec_DecText.c mix tok (fn := Tryz.f42) Tryz.func42 (by kernel_rfl) (fun _ _ => by kernel_rfl) (by kernel_rfl) (by kernel_rfl) [] trivial
    [{ lbl := 10, live := [(0, none), (3, none), (4, none)], ms := [], vs := [.c (.int .i64), .c (.str), .c (.int .i64)], bs := [], f := fun k x y => spec_DecText.l10 k x.1 x.2.1 x.2.2.1 }] { c := fun _ => none, cc := [], ms := [], tn := [], sh := false, fm := [] } rfl 5000 ⟨⟨fun _ _ => rfl, fun k x y => by kernel_rfl⟩, trivial⟩ (fun k x y => by kernel_rfl)

/-! ### loop.example/g00076/spec.l14Say: function 18 -/
def spec_l14Say.l4 : Nat → ByteArray → (List Int) → Int → Option (ByteArray)
  | 0, _, _, _ => none
  | k + 1, x0, x1, x5 => if x5 < (x1.length : Int) then (if x0.size + (ByteArray.mk #[32]).size ≤ 9223372036854775807 then (if 0 ≤ x5 then (if x5 < (x1.length : Int) then ((spec_DecText.f k (rd x1 x5)).bind fun t1 => (if (x0 ++ (ByteArray.mk #[32])).size + t1.size ≤ 9223372036854775807 then (spec_l14Say.l4 k ((x0 ++ (ByteArray.mk #[32])) ++ t1) x1 (wrap64 (x5 + 1))) else none)) else none) else none) else none) else (if x0.size + (ByteArray.mk #[10]).size ≤ 9223372036854775807 then (some (x0 ++ (ByteArray.mk #[10]))) else none)
def spec_l14Say.f (k : Nat) (a0 : ByteArray) (a1 : List Int) : Option (ByteArray) := spec_l14Say.l4 k a0 a1 0
def spec_l14Say.c : FnD := { f := 18, sh := false, ps := [.c .str, .c (.sl (.int .i64))], pb := [], vc := .c (.str), bs := [], R := ByteArray, fn := fun k x y => spec_l14Say.f k x.1 x.2.1, out := fun y => (y, ()), inn := fun d => d.1, inv := fun _ => rfl }
theorem spec_l14Say.ok : spec_l14Say.c.OK Tryz.prog :=
  FnD.of spec_l14Say.c mix tok (fn := Tryz.f18) Tryz.func18 (by kernel_rfl) (fun _ _ => by kernel_rfl) (by kernel_rfl) (by kernel_rfl) [spec_DecText.c] ⟨spec_DecText.ok, trivial⟩
    [{ lbl := 4, live := [(0, none), (1, none), (5, none)], ms := [], vs := [.c (.str), .c (.sl false (.int .i64)), .c (.int .i64)], bs := [], f := fun k x y => spec_l14Say.l4 k x.1 x.2.1 x.2.2.1 }] { c := fun _ => none, cc := [], ms := [], tn := [], sh := false, fm := [] } rfl 5000 ⟨⟨fun _ _ => rfl, fun k x y => by kernel_rfl⟩, trivial⟩ (fun k x y => by kernel_rfl)

/-! ### loop.example/g00076/spec.PrintScript: function 6 -/
mutual
def spec_PrintScript.l5 : Nat → Option (ByteArray × Bool)
  | 0 => none
  | k + 1 => some ((ByteArray.mk #[]), false)
def spec_PrintScript.l10 : Nat → (List S57) → ByteArray → Int → S43 → Option (ByteArray × Bool)
  | 0, _, _, _, _ => none
  | k + 1, x1, x6, x7, y0 => if x7 < (x1.length : Int) then (if 0 ≤ x7 then (if x7 < (x1.length : Int) then (if (rd_T57 x1 x7).f0 = 0 then ((spec_l01In.f ((rd_T57 x1 x7).f1) 0 50000).bind fun t2 => (if t2 = true then (if (rd_T57 x1 x7).f2 = 0 then ((spec_l14Say.f k (ByteArray.mk #[114, 117, 110]) ([(rd_T57 x1 x7).f1] : List Int)).bind fun t3 => (if x6.size + t3.size ≤ 9223372036854775807 then (spec_PrintScript.l13 k x1 (x6 ++ t3) x7 y0) else none)) else (spec_PrintScript.l23 k x1 x6 x7 y0 (rd_T57 x1 x7))) else (spec_PrintScript.l23 k x1 x6 x7 y0 (rd_T57 x1 x7)))) else (spec_PrintScript.l23 k x1 x6 x7 y0 (rd_T57 x1 x7))) else none) else none) else (some (x6, true))
def spec_PrintScript.l13 : Nat → (List S57) → ByteArray → Int → S43 → Option (ByteArray × Bool)
  | 0, _, _, _, _ => none
  | k + 1, x1, x6, x7, y0 => spec_PrintScript.l10 k x1 x6 (wrap64 (x7 + 1)) y0
def spec_PrintScript.l23 : Nat → (List S57) → ByteArray → Int → S43 → S57 → Option (ByteArray × Bool)
  | 0, _, _, _, _, _ => none
  | k + 1, x1, x6, x7, y0, y1 => if y1.f0 = 1 then ((spec_l01In.f y1.f1 0 7).bind fun t4 => (if t4 = true then ((spec_l14Say.f k (ByteArray.mk #[105, 110, 112, 117, 116]) ([y1.f1, (wrap64 (y1.f2))] : List Int)).bind fun t5 => (if x6.size + t5.size ≤ 9223372036854775807 then (spec_PrintScript.l13 k x1 (x6 ++ t5) x7 y0) else none)) else (if y1.f0 = 2 then ((spec_l01In.f y1.f1 0 (wrap64 ((y0.f7.length : Int) - 1))).bind fun t6 => (if t6 = true then (if y1.f2 = 0 then (if x6.size + (ByteArray.mk #[114, 101, 115, 116, 97, 114, 116, 32]).size ≤ 9223372036854775807 then (if 0 ≤ y1.f1 then (if y1.f1 < (y0.f7.length : Int) then (if (x6 ++ (ByteArray.mk #[114, 101, 115, 116, 97, 114, 116, 32])).size + ((rd_T64 y0.f7 y1.f1).f0).size ≤ 9223372036854775807 then (if ((x6 ++ (ByteArray.mk #[114, 101, 115, 116, 97, 114, 116, 32])) ++ ((rd_T64 y0.f7 y1.f1).f0)).size + (ByteArray.mk #[10]).size ≤ 9223372036854775807 then (spec_PrintScript.l13 k x1 (((x6 ++ (ByteArray.mk #[114, 101, 115, 116, 97, 114, 116, 32])) ++ ((rd_T64 y0.f7 y1.f1).f0)) ++ (ByteArray.mk #[10])) x7 y0) else none) else none) else none) else none) else none) else (spec_PrintScript.l17 k)) else (spec_PrintScript.l17 k))) else (spec_PrintScript.l17 k)))) else (if y1.f0 = 2 then ((spec_l01In.f y1.f1 0 (wrap64 ((y0.f7.length : Int) - 1))).bind fun t7 => (if t7 = true then (if y1.f2 = 0 then (if x6.size + (ByteArray.mk #[114, 101, 115, 116, 97, 114, 116, 32]).size ≤ 9223372036854775807 then (if 0 ≤ y1.f1 then (if y1.f1 < (y0.f7.length : Int) then (if (x6 ++ (ByteArray.mk #[114, 101, 115, 116, 97, 114, 116, 32])).size + ((rd_T64 y0.f7 y1.f1).f0).size ≤ 9223372036854775807 then (if ((x6 ++ (ByteArray.mk #[114, 101, 115, 116, 97, 114, 116, 32])) ++ ((rd_T64 y0.f7 y1.f1).f0)).size + (ByteArray.mk #[10]).size ≤ 9223372036854775807 then (spec_PrintScript.l13 k x1 (((x6 ++ (ByteArray.mk #[114, 101, 115, 116, 97, 114, 116, 32])) ++ ((rd_T64 y0.f7 y1.f1).f0)) ++ (ByteArray.mk #[10])) x7 y0) else none) else none) else none) else none) else none) else (spec_PrintScript.l17 k)) else (spec_PrintScript.l17 k))) else (spec_PrintScript.l17 k))
def spec_PrintScript.l17 : Nat → Option (ByteArray × Bool)
  | 0 => none
  | k + 1 => some ((ByteArray.mk #[]), false)
end
def spec_PrintScript.f (k : Nat) (a0 : S43) (a1 : List S57) : Option (ByteArray × Bool) := (spec_Sound.f k a0).bind fun t1 => (if t1 = true then (if (a1.length : Int) > 300 then (spec_PrintScript.l5 k) else (spec_PrintScript.l10 k a1 (ByteArray.mk #[]) 0 a0)) else (spec_PrintScript.l5 k))
def spec_PrintScript.c : FnD := { f := 6, sh := false, ps := [.agg T43, .c (.sl T57)], pb := [], vc := .tup [(false, [.str]), (false, [.bool])], bs := [], R := ByteArray × Bool, fn := fun k x y => spec_PrintScript.f k x.1 x.2.1, out := fun y => (((y.1, ()), (y.2, ()), ()), ()), inn := fun d => (d.1.1.1, d.1.2.1.1), inv := fun _ => rfl }
theorem spec_PrintScript.ok : spec_PrintScript.c.OK Tryz.prog :=
  FnD.of spec_PrintScript.c mix tok (fn := Tryz.f6) Tryz.func6 (by kernel_rfl) (fun _ _ => by kernel_rfl) (by kernel_rfl) (by kernel_rfl) [spec_Sound.c, spec_l01In.c, spec_l14Say.c] ⟨spec_Sound.ok, ⟨spec_l01In.ok, ⟨spec_l14Say.ok, trivial⟩⟩⟩
    [{ lbl := 5, live := [], ms := [], vs := [], bs := [], f := fun k x y => spec_PrintScript.l5 k },
      { lbl := 10, live := [(1, none), (2, none), (6, none), (7, none)], ms := [], vs := [.c (.sl false T57), .c (.ptr 0 0), .c (.str), .c (.int .i64)], bs := [.cells 43 [.int .i64, .int .i64, .int .i64, .int .i64, .int .i64, .int .i64, .int .i64, .int .i64, .int .i64, .int .i64, .int .i64, .int .i64, .int .i64, .int .i64, .int .i64, .sl false T64, .sl false (.int .i64), .sl false T98, .sl false T102]], f := fun k x y => spec_PrintScript.l10 k x.1 x.2.2.1 x.2.2.2.1 (y.1.1, (y.1.2.1, y.1.2.2.1, y.1.2.2.2.1), y.1.2.2.2.2.1, (y.1.2.2.2.2.2.1, y.1.2.2.2.2.2.2.1, y.1.2.2.2.2.2.2.2.1, y.1.2.2.2.2.2.2.2.2.1, y.1.2.2.2.2.2.2.2.2.2.1, y.1.2.2.2.2.2.2.2.2.2.2.1, y.1.2.2.2.2.2.2.2.2.2.2.2.1), y.1.2.2.2.2.2.2.2.2.2.2.2.2.1, y.1.2.2.2.2.2.2.2.2.2.2.2.2.2.1, y.1.2.2.2.2.2.2.2.2.2.2.2.2.2.2.1, y.1.2.2.2.2.2.2.2.2.2.2.2.2.2.2.2.1, y.1.2.2.2.2.2.2.2.2.2.2.2.2.2.2.2.2.1, y.1.2.2.2.2.2.2.2.2.2.2.2.2.2.2.2.2.2.1, y.1.2.2.2.2.2.2.2.2.2.2.2.2.2.2.2.2.2.2.1) },
      { lbl := 13, live := [(1, none), (2, none), (6, none), (7, none)], ms := [], vs := [.c (.sl false T57), .c (.ptr 0 0), .c (.str), .c (.int .i64)], bs := [.cells 43 [.int .i64, .int .i64, .int .i64, .int .i64, .int .i64, .int .i64, .int .i64, .int .i64, .int .i64, .int .i64, .int .i64, .int .i64, .int .i64, .int .i64, .int .i64, .sl false T64, .sl false (.int .i64), .sl false T98, .sl false T102]], f := fun k x y => spec_PrintScript.l13 k x.1 x.2.2.1 x.2.2.2.1 (y.1.1, (y.1.2.1, y.1.2.2.1, y.1.2.2.2.1), y.1.2.2.2.2.1, (y.1.2.2.2.2.2.1, y.1.2.2.2.2.2.2.1, y.1.2.2.2.2.2.2.2.1, y.1.2.2.2.2.2.2.2.2.1, y.1.2.2.2.2.2.2.2.2.2.1, y.1.2.2.2.2.2.2.2.2.2.2.1, y.1.2.2.2.2.2.2.2.2.2.2.2.1), y.1.2.2.2.2.2.2.2.2.2.2.2.2.1, y.1.2.2.2.2.2.2.2.2.2.2.2.2.2.1, y.1.2.2.2.2.2.2.2.2.2.2.2.2.2.2.1, y.1.2.2.2.2.2.2.2.2.2.2.2.2.2.2.2.1, y.1.2.2.2.2.2.2.2.2.2.2.2.2.2.2.2.2.1, y.1.2.2.2.2.2.2.2.2.2.2.2.2.2.2.2.2.2.1, y.1.2.2.2.2.2.2.2.2.2.2.2.2.2.2.2.2.2.2.1) },
      { lbl := 23, live := [(1, none), (2, none), (6, none), (7, none), (8, none)], ms := [], vs := [.c (.sl false T57), .c (.ptr 0 0), .c (.str), .c (.int .i64), .c (.ptr 1 0)], bs := [.cells 43 [.int .i64, .int .i64, .int .i64, .int .i64, .int .i64, .int .i64, .int .i64, .int .i64, .int .i64, .int .i64, .int .i64, .int .i64, .int .i64, .int .i64, .int .i64, .sl false T64, .sl false (.int .i64), .sl false T98, .sl false T102], .cells 57 [.int .i64, .int .i64, .int .u32]], f := fun k x y => spec_PrintScript.l23 k x.1 x.2.2.1 x.2.2.2.1 (y.1.1, (y.1.2.1, y.1.2.2.1, y.1.2.2.2.1), y.1.2.2.2.2.1, (y.1.2.2.2.2.2.1, y.1.2.2.2.2.2.2.1, y.1.2.2.2.2.2.2.2.1, y.1.2.2.2.2.2.2.2.2.1, y.1.2.2.2.2.2.2.2.2.2.1, y.1.2.2.2.2.2.2.2.2.2.2.1, y.1.2.2.2.2.2.2.2.2.2.2.2.1), y.1.2.2.2.2.2.2.2.2.2.2.2.2.1, y.1.2.2.2.2.2.2.2.2.2.2.2.2.2.1, y.1.2.2.2.2.2.2.2.2.2.2.2.2.2.2.1, y.1.2.2.2.2.2.2.2.2.2.2.2.2.2.2.2.1, y.1.2.2.2.2.2.2.2.2.2.2.2.2.2.2.2.2.1, y.1.2.2.2.2.2.2.2.2.2.2.2.2.2.2.2.2.2.1, y.1.2.2.2.2.2.2.2.2.2.2.2.2.2.2.2.2.2.2.1) (y.2.1.1, y.2.1.2.1, y.2.1.2.2.1) },
      { lbl := 17, live := [], ms := [], vs := [], bs := [], f := fun k x y => spec_PrintScript.l17 k }] { c := fun _ => none, cc := [], ms := [], tn := [], sh := false, fm := [] } rfl 5000 ⟨⟨fun _ _ => rfl, fun k x y => by kernel_rfl⟩, ⟨⟨fun _ _ => rfl, fun k x y => by kernel_rfl⟩, ⟨⟨fun _ _ => rfl, fun k x y => by kernel_rfl⟩, ⟨⟨fun _ _ => rfl, fun k x y => by kernel_rfl⟩, ⟨⟨fun _ _ => rfl, fun k x y => by kernel_rfl⟩, trivial⟩⟩⟩⟩⟩ (fun k x y => by kernel_rfl)

/-! ### loop.example/g00076/impl.within: function 48 -/
def impl_within.f (a0 : Int) (a1 : Int) (a2 : Int) : Option (Bool) := if a0 ≥ a1 then (some (decide (a0 ≤ a2))) else (some false)
def impl_within.c : FnD := { f := 48, sh := false, ps := [.c (.int .i64), .c (.int .i64), .c (.int .i64)], pb := [], vc := .c (.bool), bs := [], R := Bool, fn := fun _ x y => impl_within.f x.1 x.2.1 x.2.2.1, out := fun y => (y, ()), inn := fun d => d.1, inv := fun _ => rfl }
theorem impl_within.ok : impl_within.c.OK Tryz.prog :=
  FnD.of impl_within.c mix tok (fn := Tryz.f48) Tryz.func48 (by kernel_rfl) (fun _ _ => by kernel_rfl) (by kernel_rfl) (by kernel_rfl) [] trivial
    [] { c := fun _ => none, cc := [], ms := [], tn := [], sh := false, fm := [] } rfl 5000 trivial (fun k x y => by kernel_rfl)

/-! ### loop.example/g00076/impl.isMem: function 46 -/
def impl_isMem.f (a0 : Int) : Option (Bool) := (impl_within.f a0 64 2048).bind fun t1 => (if t1 = true then (some (decide ((Int.tmod a0 4) = 0))) else (some false))
def impl_isMem.c : FnD := { f := 46, sh := false, ps := [.c (.int .i64)], pb := [], vc := .c (.bool), bs := [], R := Bool, fn := fun _ x y => impl_isMem.f x.1, out := fun y => (y, ()), inn := fun d => d.1, inv := fun _ => rfl }
theorem impl_isMem.ok : impl_isMem.c.OK Tryz.prog :=
  FnD.of impl_isMem.c mix tok (fn := Tryz.f46) Tryz.func46 (by kernel_rfl) (fun _ _ => by kernel_rfl) (by kernel_rfl) (by kernel_rfl) [impl_within.c] ⟨impl_within.ok, trivial⟩
    [] { c := fun _ => none, cc := [], ms := [], tn := [], sh := false, fm := [] } rfl 5000 trivial (fun k x y => by kernel_rfl)

/-! ### loop.example/g00076/impl.isPower: function 76 -/
def impl_isPower.f (a0 : Int) : Option (Bool) := if a0 > 0 then (some (decide ((bitAnd .i64 a0 (wrap64 (a0 - 1))) = 0))) else (some false)
def impl_isPower.c : FnD := { f := 76, sh := false, ps := [.c (.int .i64)], pb := [], vc := .c (.bool), bs := [], R := Bool, fn := fun _ x y => impl_isPower.f x.1, out := fun y => (y, ()), inn := fun d => d.1, inv := fun _ => rfl }
theorem impl_isPower.ok : impl_isPower.c.OK Tryz.prog :=
  FnD.of impl_isPower.c mix tok (fn := Tryz.f76) Tryz.func76 (by kernel_rfl) (fun _ _ => by kernel_rfl) (by kernel_rfl) (by kernel_rfl) [] trivial
    [] { c := fun _ => none, cc := [], ms := [], tn := [], sh := false, fm := [] } rfl 5000 trivial (fun k x y => by kernel_rfl)

/-! ### loop.example/g00076/impl.isShape: function 47 -/
def impl_isShape.f (a0 : S37) : Option (Bool) := (impl_within.f a0.f0 1 16).bind fun t1 => (if t1 = true then ((impl_isPower.f a0.f0).bind fun t2 => (if t2 = true then ((impl_within.f a0.f1 1 4).bind fun t3 => (if t3 = true then ((impl_within.f a0.f2 4 32).bind fun t4 => (if t4 = true then ((impl_isPower.f a0.f2).bind fun t5 => (some t5)) else (some false))) else (some false))) else (some false))) else (some false))
def impl_isShape.c : FnD := { f := 47, sh := false, ps := [.agg T37], pb := [], vc := .c (.bool), bs := [], R := Bool, fn := fun _ x y => impl_isShape.f x.1, out := fun y => (y, ()), inn := fun d => d.1, inv := fun _ => rfl }
theorem impl_isShape.ok : impl_isShape.c.OK Tryz.prog :=
  FnD.of impl_isShape.c mix tok (fn := Tryz.f47) Tryz.func47 (by kernel_rfl) (fun _ _ => by kernel_rfl) (by kernel_rfl) (by kernel_rfl) [impl_within.c, impl_isPower.c] ⟨impl_within.ok, ⟨impl_isPower.ok, trivial⟩⟩
    [] { c := fun _ => none, cc := [], ms := [], tn := [], sh := false, fm := [] } rfl 5000 trivial (fun k x y => by kernel_rfl)

/-! ### loop.example/g00076/impl.areCosts: function 49 -/
def impl_areCosts.l4 : Nat → Int → Int → Int → Int → Int → Int → Int → S38 → Option (Bool)
  | 0, _, _, _, _, _, _, _, _ => none
  | k + 1, x17_0, x17_1, x17_2, x17_3, x17_4, x17_5, x18, y0 => if x18 < 6 then (if 0 ≤ x18 then (if x18 < ((6 : Nat) : Int) then ((impl_within.f (([x17_0, x17_1, x17_2, x17_3, x17_4, x17_5] : List Int).getD x18.toNat 0) 0 50).bind fun t1 => (if t1 = true then (impl_areCosts.l4 k x17_0 x17_1 x17_2 x17_3 x17_4 x17_5 (wrap64 (x18 + 1)) y0) else (some false))) else none) else none) else ((impl_within.f y0.f0 1 20).bind fun t2 => (some t2))
def impl_areCosts.f (k : Nat) (a0 : S38) : Option (Bool) := impl_areCosts.l4 k a0.f1 a0.f2 a0.f3 a0.f4 a0.f5 a0.f6 0 a0
def impl_areCosts.c : FnD := { f := 49, sh := false, ps := [.agg T38], pb := [], vc := .c (.bool), bs := [], R := Bool, fn := fun k x y => impl_areCosts.f k x.1, out := fun y => (y, ()), inn := fun d => d.1, inv := fun _ => rfl }
theorem impl_areCosts.ok : impl_areCosts.c.OK Tryz.prog :=
  FnD.of impl_areCosts.c mix tok (fn := Tryz.f49) Tryz.func49 (by kernel_rfl) (fun _ _ => by kernel_rfl) (by kernel_rfl) (by kernel_rfl) [impl_within.c] ⟨impl_within.ok, trivial⟩
    [{ lbl := 4, live := [(1, none), (17, none), (18, none)], ms := [], vs := [.c (.ptr 0 0), .agg [.int .i64, .int .i64, .int .i64, .int .i64, .int .i64, .int .i64], .c (.int .i64)], bs := [.cells 38 [.int .i64, .int .i64, .int .i64, .int .i64, .int .i64, .int .i64, .int .i64]], f := fun k x y => impl_areCosts.l4 k x.2.1.1 x.2.1.2.1 x.2.1.2.2.1 x.2.1.2.2.2.1 x.2.1.2.2.2.2.1 x.2.1.2.2.2.2.2.1 x.2.2.1 (y.1.1, y.1.2.1, y.1.2.2.1, y.1.2.2.2.1, y.1.2.2.2.2.1, y.1.2.2.2.2.2.1, y.1.2.2.2.2.2.2.1) }] { c := fun _ => none, cc := [], ms := [], tn := [], sh := false, fm := [] } rfl 5000 ⟨⟨fun _ _ => rfl, fun k x y => by kernel_rfl⟩, trivial⟩ (fun k x y => by kernel_rfl)

/-! ### loop.example/g00076/impl.isSpan: function 50 -/
def impl_isSpan.f (a0 : Int) : Option (Bool) := (impl_within.f a0 1 5000).bind fun t1 => (some t1)
def impl_isSpan.c : FnD := { f := 50, sh := false, ps := [.c (.int .i64)], pb := [], vc := .c (.bool), bs := [], R := Bool, fn := fun _ x y => impl_isSpan.f x.1, out := fun y => (y, ()), inn := fun d => d.1, inv := fun _ => rfl }
theorem impl_isSpan.ok : impl_isSpan.c.OK Tryz.prog :=
  FnD.of impl_isSpan.c mix tok (fn := Tryz.f50) Tryz.func50 (by kernel_rfl) (fun _ _ => by kernel_rfl) (by kernel_rfl) (by kernel_rfl) [impl_within.c] ⟨impl_within.ok, trivial⟩
    [] { c := fun _ => none, cc := [], ms := [], tn := [], sh := false, fm := [] } rfl 5000 trivial (fun k x y => by kernel_rfl)

/-! ### loop.example/g00076/impl.opCost: function 101 -/
def impl_opCost.f (a0 : S38) (a1 : Int) : Option (Int) := if a1 = 9 then (some (wrap64 (a0.f0 + a0.f1))) else (if a1 = 10 then (some (wrap64 (a0.f0 + a0.f1))) else ((impl_within.f a1 15 18).bind fun t1 => (if t1 = true then (some (wrap64 (a0.f0 + a0.f2))) else (if a1 ≥ 25 then (some (wrap64 (a0.f0 + a0.f5))) else (some a0.f0)))))
def impl_opCost.c : FnD := { f := 101, sh := false, ps := [.agg T38, .c (.int .i64)], pb := [], vc := .c (.int .i64), bs := [], R := Int, fn := fun _ x y => impl_opCost.f x.1 x.2.1, out := fun y => (y, ()), inn := fun d => d.1, inv := fun _ => rfl }
theorem impl_opCost.ok : impl_opCost.c.OK Tryz.prog :=
  FnD.of impl_opCost.c mix tok (fn := Tryz.f101) Tryz.func101 (by kernel_rfl) (fun _ _ => by kernel_rfl) (by kernel_rfl) (by kernel_rfl) [impl_within.c] ⟨impl_within.ok, trivial⟩
    [] { c := fun _ => none, cc := [], ms := [], tn := [], sh := false, fm := [] } rfl 5000 trivial (fun k x y => by kernel_rfl)

/-! ### loop.example/g00076/impl.accessCost: function 102 -/
def impl_accessCost.f (a0 : S38) (a1 : S146) : Option (Int) := if a1.f0 = true then (if a1.f1 = true then (if a1.f2 = true then (some (wrap64 (0 + a0.f6))) else (some 0)) else (if a1.f2 = true then (some (wrap64 ((wrap64 (0 + a0.f4)) + a0.f6))) else (some (wrap64 (0 + a0.f4))))) else (if a1.f1 = true then (if a1.f2 = true then (some (wrap64 ((wrap64 (0 + a0.f3)) + a0.f6))) else (some (wrap64 (0 + a0.f3)))) else (if a1.f2 = true then (some (wrap64 ((wrap64 ((wrap64 (0 + a0.f3)) + a0.f4)) + a0.f6))) else (some (wrap64 ((wrap64 (0 + a0.f3)) + a0.f4)))))
def impl_accessCost.c : FnD := { f := 102, sh := false, ps := [.agg T38, .agg T146], pb := [], vc := .c (.int .i64), bs := [], R := Int, fn := fun _ x y => impl_accessCost.f x.1 x.2.1, out := fun y => (y, ()), inn := fun d => d.1, inv := fun _ => rfl }
theorem impl_accessCost.ok : impl_accessCost.c.OK Tryz.prog :=
  FnD.of impl_accessCost.c mix tok (fn := Tryz.f102) Tryz.func102 (by kernel_rfl) (fun _ _ => by kernel_rfl) (by kernel_rfl) (by kernel_rfl) [] trivial
    [] { c := fun _ => none, cc := [], ms := [], tn := [], sh := false, fm := [] } rfl 5000 trivial (fun k x y => by kernel_rfl)

/-! ### loop.example/g00076/impl.WorstStep: function 77 -/
def impl_WorstStep.l10 : Nat → Int → Int → S38 → Option (Int)
  | 0, _, _, _ => none
  | k + 1, x3, x8, y0 => if x8 < 33 then ((impl_opCost.f y0 x8).bind fun t2 => (impl_WorstStep.l10 k (mx x3 t2) (wrap64 (x8 + 1)) y0)) else ((impl_accessCost.f y0 (⟨false, false, true⟩ : S146)).bind fun t3 => (some (wrap64 ((wrap64 (x3 + (wrap64 (2 * t3)))) + y0.f5))))
def impl_WorstStep.f (k : Nat) (a0 : S38) : Option (Int) := (impl_areCosts.f k a0).bind fun t1 => (if t1 = true then (impl_WorstStep.l10 k 0 0 a0) else (some (-1)))
def impl_WorstStep.c : FnD := { f := 77, sh := false, ps := [.agg T38], pb := [], vc := .c (.int .i64), bs := [], R := Int, fn := fun k x y => impl_WorstStep.f k x.1, out := fun y => (y, ()), inn := fun d => d.1, inv := fun _ => rfl }
theorem impl_WorstStep.ok : impl_WorstStep.c.OK Tryz.prog :=
  FnD.of impl_WorstStep.c mix tok (fn := Tryz.f77) Tryz.func77 (by kernel_rfl) (fun _ _ => by kernel_rfl) (by kernel_rfl) (by kernel_rfl) [impl_areCosts.c, impl_opCost.c, impl_accessCost.c] ⟨impl_areCosts.ok, ⟨impl_opCost.ok, ⟨impl_accessCost.ok, trivial⟩⟩⟩
    [{ lbl := 10, live := [(1, none), (3, none), (8, none)], ms := [], vs := [.c (.ptr 0 0), .c (.int .i64), .c (.int .i64)], bs := [.cells 38 [.int .i64, .int .i64, .int .i64, .int .i64, .int .i64, .int .i64, .int .i64]], f := fun k x y => impl_WorstStep.l10 k x.2.1 x.2.2.1 (y.1.1, y.1.2.1, y.1.2.2.1, y.1.2.2.2.1, y.1.2.2.2.2.1, y.1.2.2.2.2.2.1, y.1.2.2.2.2.2.2.1) }] { c := fun _ => none, cc := [], ms := [], tn := [], sh := false, fm := [] } rfl 5000 ⟨⟨fun _ _ => rfl, fun k x y => by kernel_rfl⟩, trivial⟩ (fun k x y => by kernel_rfl)

/-! ### loop.example/g00076/impl.worstStep: function 51 -/
def impl_worstStep.f (k : Nat) (a0 : S38) : Option (Int) := (impl_WorstStep.f k a0).bind fun t1 => (some t1)
def impl_worstStep.c : FnD := { f := 51, sh := false, ps := [.agg T38], pb := [], vc := .c (.int .i64), bs := [], R := Int, fn := fun k x y => impl_worstStep.f k x.1, out := fun y => (y, ()), inn := fun d => d.1, inv := fun _ => rfl }
theorem impl_worstStep.ok : impl_worstStep.c.OK Tryz.prog :=
  FnD.of impl_worstStep.c mix tok (fn := Tryz.f51) Tryz.func51 (by kernel_rfl) (fun _ _ => by kernel_rfl) (by kernel_rfl) (by kernel_rfl) [impl_WorstStep.c] ⟨impl_WorstStep.ok, trivial⟩
    [] { c := fun _ => none, cc := [], ms := [], tn := [], sh := false, fm := [] } rfl 5000 trivial (fun k x y => by kernel_rfl)

/-! ### loop.example/g00076/impl.isLabel: function 103 -/
def impl_isLabel.l4 : Nat → ByteArray → Int → Int → Option (Bool)
  | 0, _, _, _ => none
  | k + 1, x0, x5, x6 => if x6 < x5 then (if 0 ≤ x6 then (if x6 < (x0.size : Int) then (if (bt x0 x6) < 97 then (some false) else (if 0 ≤ x6 then (if x6 < (x0.size : Int) then (if (bt x0 x6) > 122 then (some false) else (impl_isLabel.l4 k x0 x5 (wrap64 (x6 + 1)))) else none) else none)) else none) else none) else ((impl_within.f (x0.size : Int) 1 12).bind fun t1 => (some t1))
def impl_isLabel.f (k : Nat) (a0 : ByteArray) : Option (Bool) := impl_isLabel.l4 k a0 (a0.size : Int) 0
def impl_isLabel.c : FnD := { f := 103, sh := false, ps := [.c .str], pb := [], vc := .c (.bool), bs := [], R := Bool, fn := fun k x y => impl_isLabel.f k x.1, out := fun y => (y, ()), inn := fun d => d.1, inv := fun _ => rfl }
theorem impl_isLabel.ok : impl_isLabel.c.OK Tryz.prog :=
  FnD.of impl_isLabel.c mix tok (fn := Tryz.f103) Tryz.func103 (by kernel_rfl) (fun _ _ => by kernel_rfl) (by kernel_rfl) (by kernel_rfl) [impl_within.c] ⟨impl_within.ok, trivial⟩
    [{ lbl := 4, live := [(0, none), (5, none), (6, none)], ms := [], vs := [.c (.str), .c (.int .i64), .c (.int .i64)], bs := [], f := fun k x y => impl_isLabel.l4 k x.1 x.2.1 x.2.2.1 }] { c := fun _ => none, cc := [], ms := [], tn := [], sh := false, fm := [] } rfl 5000 ⟨⟨fun _ _ => rfl, fun k x y => by kernel_rfl⟩, trivial⟩ (fun k x y => by kernel_rfl)

/-! ### loop.example/g00076/impl.isName: function 78 -/
def impl_isName.f (k : Nat) (a0 : ByteArray) : Option (Bool) := (impl_isLabel.f k a0).bind fun t1 => (if t1 = true then (some (decide ((a0.size : Int) ≤ 8))) else (some false))
def impl_isName.c : FnD := { f := 78, sh := false, ps := [.c .str], pb := [], vc := .c (.bool), bs := [], R := Bool, fn := fun k x y => impl_isName.f k x.1, out := fun y => (y, ()), inn := fun d => d.1, inv := fun _ => rfl }
theorem impl_isName.ok : impl_isName.c.OK Tryz.prog :=
  FnD.of impl_isName.c mix tok (fn := Tryz.f78) Tryz.func78 (by kernel_rfl) (fun _ _ => by kernel_rfl) (by kernel_rfl) (by kernel_rfl) [impl_isLabel.c] ⟨impl_isLabel.ok, trivial⟩
    [] { c := fun _ => none, cc := [], ms := [], tn := [], sh := false, fm := [] } rfl 5000 trivial (fun k x y => by kernel_rfl)

/-! ### loop.example/g00076/impl.partNamed$1: function 105 -/
def impl_partNamed_1.f (a0 : S64) (c1 : ByteArray) : Option (Bool) := some (decide (a0.f0 = c1))
def impl_partNamed_1.c : FnD := { f := 105, sh := false, ps := [.agg T64, .cap .str], pb := [], vc := .c (.bool), bs := [], R := Bool, fn := fun _ x y => impl_partNamed_1.f x.1 x.2.1, out := fun y => (y, ()), inn := fun d => d.1, inv := fun _ => rfl }
theorem impl_partNamed_1.ok : impl_partNamed_1.c.OK Tryz.prog :=
  FnD.of impl_partNamed_1.c mix tok (fn := Tryz.f105) Tryz.func105 (by kernel_rfl) (fun _ _ => by kernel_rfl) (by kernel_rfl) (by kernel_rfl) [] trivial
    [] { c := fun _ => none, cc := [], ms := [], tn := [], sh := false, fm := [] } rfl 5000 trivial (fun k x y => by kernel_rfl)

/-! ### slices.IndexFunc[[]loop.example/g00076/impl.PartRow,loop.example/g00076/impl.PartRow]: function 104 -/
def slices_IndexFunc_104_105.l4 : Nat → (List S64) → ByteArray → Int → Int → Option (Int)
  | 0, _, _, _, _ => none
  | k + 1, x0, x1_0, x7, x8 => if x8 < x7 then (if 0 ≤ x8 then (if x8 < (x0.length : Int) then ((impl_partNamed_1.f (rd_T64 x0 x8) x1_0).bind fun t1 => (if t1 = true then (some x8) else (slices_IndexFunc_104_105.l4 k x0 x1_0 x7 (wrap64 (x8 + 1))))) else none) else none) else (some (-1))
def slices_IndexFunc_104_105.f (k : Nat) (a0 : List S64) (p1_0 : ByteArray) : Option (Int) := slices_IndexFunc_104_105.l4 k a0 p1_0 (a0.length : Int) 0
def slices_IndexFunc_104_105.c : FnD := { f := 104, sh := false, ps := [.c (.sl T64), .fn 105 [.str]], pb := [], vc := .c (.int .i64), bs := [], R := Int, fn := fun k x y => slices_IndexFunc_104_105.f k x.1 x.2.1.1, out := fun y => (y, ()), inn := fun d => d.1, inv := fun _ => rfl }
theorem slices_IndexFunc_104_105.ok : slices_IndexFunc_104_105.c.OK Tryz.prog :=
  FnD.of slices_IndexFunc_104_105.c mix tok (fn := Tryz.f104) Tryz.func104 (by kernel_rfl) (fun _ _ => by kernel_rfl) (by kernel_rfl) (by kernel_rfl) [impl_partNamed_1.c] ⟨impl_partNamed_1.ok, trivial⟩
    [{ lbl := 4, live := [(0, none), (1, none), (7, none), (8, none)], ms := [], vs := [.c (.sl false T64), .c (.fn 105 [.str]), .c (.int .i64), .c (.int .i64)], bs := [], f := fun k x y => slices_IndexFunc_104_105.l4 k x.1 x.2.1.1 x.2.2.1 x.2.2.2.1 }] { c := fun _ => none, cc := [], ms := [], tn := [], sh := false, fm := [] } rfl 5000 ⟨⟨fun _ _ => rfl, fun k x y => by kernel_rfl⟩, trivial⟩ (fun k x y => by kernel_rfl)

/-! ### loop.example/g00076/impl.partNamed: function 79 -/
def impl_partNamed.f (k : Nat) (a0 : S43) (a1 : ByteArray) : Option (Int) := (slices_IndexFunc_104_105.f k a0.f7 a1).bind fun t1 => (some t1)
def impl_partNamed.c : FnD := { f := 79, sh := false, ps := [.agg T43, .c .str], pb := [], vc := .c (.int .i64), bs := [], R := Int, fn := fun k x y => impl_partNamed.f k x.1 x.2.1, out := fun y => (y, ()), inn := fun d => d.1, inv := fun _ => rfl }
theorem impl_partNamed.ok : impl_partNamed.c.OK Tryz.prog :=
  FnD.of impl_partNamed.c mix tok (fn := Tryz.f79) Tryz.func79 (by kernel_rfl) (fun _ _ => by kernel_rfl) (by kernel_rfl) (by kernel_rfl) [slices_IndexFunc_104_105.c] ⟨slices_IndexFunc_104_105.ok, trivial⟩
    [] { c := fun _ => none, cc := [], ms := [], tn := [], sh := false, fm := [] } rfl 5000 trivial (fun k x y => by kernel_rfl)

/-! ### loop.example/g00076/impl.isPolicy: function 80 -/
def impl_isPolicy.f (a0 : S61) : Option (Bool) := if a0.f0 = 1 then ((impl_within.f a0.f1 0 100).bind fun t1 => (some t1)) else (if a0.f0 = 0 then (some (decide (a0.f1 = 0))) else (if a0.f0 = 2 then (some (decide (a0.f1 = 0))) else (some false)))
def impl_isPolicy.c : FnD := { f := 80, sh := false, ps := [.agg T61], pb := [], vc := .c (.bool), bs := [], R := Bool, fn := fun _ x y => impl_isPolicy.f x.1, out := fun y => (y, ()), inn := fun d => d.1, inv := fun _ => rfl }
theorem impl_isPolicy.ok : impl_isPolicy.c.OK Tryz.prog :=
  FnD.of impl_isPolicy.c mix tok (fn := Tryz.f80) Tryz.func80 (by kernel_rfl) (fun _ _ => by kernel_rfl) (by kernel_rfl) (by kernel_rfl) [impl_within.c] ⟨impl_within.ok, trivial⟩
    [] { c := fun _ => none, cc := [], ms := [], tn := [], sh := false, fm := [] } rfl 5000 trivial (fun k x y => by kernel_rfl)

/-! ### loop.example/g00076/impl.isWindow: function 81 -/
def impl_isWindow.f (a0 : S122) : Option (Bool) := (impl_within.f a0.f1 4 2048).bind fun t1 => (if t1 = true then (if (Int.tmod a0.f1 4) = 0 then ((impl_within.f a0.f0 0 (wrap64 (2048 - a0.f1))).bind fun t2 => (if t2 = true then (if (Int.tmod a0.f0 4) = 0 then ((impl_within.f a0.f2 1 7).bind fun t3 => (some t3)) else (some false)) else (some false))) else (some false)) else (some false))
def impl_isWindow.c : FnD := { f := 81, sh := false, ps := [.agg T122], pb := [], vc := .c (.bool), bs := [], R := Bool, fn := fun _ x y => impl_isWindow.f x.1, out := fun y => (y, ()), inn := fun d => d.1, inv := fun _ => rfl }
theorem impl_isWindow.ok : impl_isWindow.c.OK Tryz.prog :=
  FnD.of impl_isWindow.c mix tok (fn := Tryz.f81) Tryz.func81 (by kernel_rfl) (fun _ _ => by kernel_rfl) (by kernel_rfl) (by kernel_rfl) [impl_within.c] ⟨impl_within.ok, trivial⟩
    [] { c := fun _ => none, cc := [], ms := [], tn := [], sh := false, fm := [] } rfl 5000 trivial (fun k x y => by kernel_rfl)

/-! ### loop.example/g00076/impl.areApart: function 84 -/
def impl_areApart.f (a0 : S122) (a1 : S122) : Option (Bool) := if (wrap64 (a0.f0 + a0.f1)) ≤ a1.f0 then (some true) else (some (decide ((wrap64 (a1.f0 + a1.f1)) ≤ a0.f0)))
def impl_areApart.c : FnD := { f := 84, sh := false, ps := [.agg T122, .agg T122], pb := [], vc := .c (.bool), bs := [], R := Bool, fn := fun _ x y => impl_areApart.f x.1 x.2.1, out := fun y => (y, ()), inn := fun d => d.1, inv := fun _ => rfl }
theorem impl_areApart.ok : impl_areApart.c.OK Tryz.prog :=
  FnD.of impl_areApart.c mix tok (fn := Tryz.f84) Tryz.func84 (by kernel_rfl) (fun _ _ => by kernel_rfl) (by kernel_rfl) (by kernel_rfl) [] trivial
    [] { c := fun _ => none, cc := [], ms := [], tn := [], sh := false, fm := [] } rfl 5000 trivial (fun k x y => by kernel_rfl)

/-! ### loop.example/g00076/impl.areParts$1: function 83 -/
def impl_areParts_1.f (a0 : S122) (c1 : S122) : Option (Bool) := (impl_areApart.f a0 c1).bind fun t1 => (some (!t1))
def impl_areParts_1.c : FnD := { f := 83, sh := false, ps := [.agg T122, .cap T122], pb := [], vc := .c (.bool), bs := [], R := Bool, fn := fun _ x y => impl_areParts_1.f x.1 x.2.1, out := fun y => (y, ()), inn := fun d => d.1, inv := fun _ => rfl }
theorem impl_areParts_1.ok : impl_areParts_1.c.OK Tryz.prog :=
  FnD.of impl_areParts_1.c mix tok (fn := Tryz.f83) Tryz.func83 (by kernel_rfl) (fun _ _ => by kernel_rfl) (by kernel_rfl) (by kernel_rfl) [impl_areApart.c] ⟨impl_areApart.ok, trivial⟩
    [] { c := fun _ => none, cc := [], ms := [], tn := [], sh := false, fm := [] } rfl 5000 trivial (fun k x y => by kernel_rfl)

/-! ### slices.IndexFunc[[]loop.example/g00076/impl.Window,loop.example/g00076/impl.Window]: function 106 -/
def slices_IndexFunc_106_83.l4 : Nat → (List S122) → S122 → Int → Int → Option (Int)
  | 0, _, _, _, _ => none
  | k + 1, x0, x1_0, x7, x8 => if x8 < x7 then (if 0 ≤ x8 then (if x8 < (x0.length : Int) then ((impl_areParts_1.f (rd_T122 x0 x8) x1_0).bind fun t1 => (if t1 = true then (some x8) else (slices_IndexFunc_106_83.l4 k x0 x1_0 x7 (wrap64 (x8 + 1))))) else none) else none) else (some (-1))
def slices_IndexFunc_106_83.f (k : Nat) (a0 : List S122) (p1_0 : S122) : Option (Int) := slices_IndexFunc_106_83.l4 k a0 p1_0 (a0.length : Int) 0
def slices_IndexFunc_106_83.c : FnD := { f := 106, sh := false, ps := [.c (.sl T122), .fn 83 [T122]], pb := [], vc := .c (.int .i64), bs := [], R := Int, fn := fun k x y => slices_IndexFunc_106_83.f k x.1 x.2.1.1, out := fun y => (y, ()), inn := fun d => d.1, inv := fun _ => rfl }
theorem slices_IndexFunc_106_83.ok : slices_IndexFunc_106_83.c.OK Tryz.prog :=
  FnD.of slices_IndexFunc_106_83.c mix tok (fn := Tryz.f106) Tryz.func106 (by kernel_rfl) (fun _ _ => by kernel_rfl) (by kernel_rfl) (by kernel_rfl) [impl_areParts_1.c] ⟨impl_areParts_1.ok, trivial⟩
    [{ lbl := 4, live := [(0, none), (1, none), (7, none), (8, none)], ms := [], vs := [.c (.sl false T122), .c (.fn 83 [T122]), .c (.int .i64), .c (.int .i64)], bs := [], f := fun k x y => slices_IndexFunc_106_83.l4 k x.1 x.2.1.1 x.2.2.1 x.2.2.2.1 }] { c := fun _ => none, cc := [], ms := [], tn := [], sh := false, fm := [] } rfl 5000 ⟨⟨fun _ _ => rfl, fun k x y => by kernel_rfl⟩, trivial⟩ (fun k x y => by kernel_rfl)

/-! ### slices.ContainsFunc[[]loop.example/g00076/impl.Window,loop.example/g00076/impl.Window]: function 82 -/
def slices_ContainsFunc_82_83.f (k : Nat) (a0 : List S122) (p1_0 : S122) : Option (Bool) := (slices_IndexFunc_106_83.f k a0 p1_0).bind fun t1 => (some (decide (t1 ≥ 0)))
def slices_ContainsFunc_82_83.c : FnD := { f := 82, sh := false, ps := [.c (.sl T122), .fn 83 [T122]], pb := [], vc := .c (.bool), bs := [], R := Bool, fn := fun k x y => slices_ContainsFunc_82_83.f k x.1 x.2.1.1, out := fun y => (y, ()), inn := fun d => d.1, inv := fun _ => rfl }
theorem slices_ContainsFunc_82_83.ok : slices_ContainsFunc_82_83.c.OK Tryz.prog :=
  FnD.of slices_ContainsFunc_82_83.c mix tok (fn := Tryz.f82) Tryz.func82 (by kernel_rfl) (fun _ _ => by kernel_rfl) (by kernel_rfl) (by kernel_rfl) [slices_IndexFunc_106_83.c] ⟨slices_IndexFunc_106_83.ok, trivial⟩
    [] { c := fun _ => none, cc := [], ms := [], tn := [], sh := false, fm := [] } rfl 5000 trivial (fun k x y => by kernel_rfl)

/-! ### loop.example/g00076/impl.windowAt$1: function 113 -/
def impl_windowAt_1.f (a0 : S122) (c1 : Int) : Option (Bool) := if a0.f0 ≤ c1 then (some (decide (c1 < (wrap64 (a0.f0 + a0.f1))))) else (some false)
def impl_windowAt_1.c : FnD := { f := 113, sh := false, ps := [.agg T122, .cap (.int .i64)], pb := [], vc := .c (.bool), bs := [], R := Bool, fn := fun _ x y => impl_windowAt_1.f x.1 x.2.1, out := fun y => (y, ()), inn := fun d => d.1, inv := fun _ => rfl }
theorem impl_windowAt_1.ok : impl_windowAt_1.c.OK Tryz.prog :=
  FnD.of impl_windowAt_1.c mix tok (fn := Tryz.f113) Tryz.func113 (by kernel_rfl) (fun _ _ => by kernel_rfl) (by kernel_rfl) (by kernel_rfl) [] trivial
    [] { c := fun _ => none, cc := [], ms := [], tn := [], sh := false, fm := [] } rfl 5000 trivial (fun k x y => by kernel_rfl)

/-! ### slices.IndexFunc[[]loop.example/g00076/impl.Window,loop.example/g00076/impl.Window]: function 106 -/
def slices_IndexFunc_106_113.l4 : Nat → (List S122) → Int → Int → Int → Option (Int)
  | 0, _, _, _, _ => none
  | k + 1, x0, x1_0, x7, x8 => if x8 < x7 then (if 0 ≤ x8 then (if x8 < (x0.length : Int) then ((impl_windowAt_1.f (rd_T122 x0 x8) x1_0).bind fun t1 => (if t1 = true then (some x8) else (slices_IndexFunc_106_113.l4 k x0 x1_0 x7 (wrap64 (x8 + 1))))) else none) else none) else (some (-1))
def slices_IndexFunc_106_113.f (k : Nat) (a0 : List S122) (p1_0 : Int) : Option (Int) := slices_IndexFunc_106_113.l4 k a0 p1_0 (a0.length : Int) 0
def slices_IndexFunc_106_113.c : FnD := { f := 106, sh := false, ps := [.c (.sl T122), .fn 113 [(.int .i64)]], pb := [], vc := .c (.int .i64), bs := [], R := Int, fn := fun k x y => slices_IndexFunc_106_113.f k x.1 x.2.1.1, out := fun y => (y, ()), inn := fun d => d.1, inv := fun _ => rfl }
theorem slices_IndexFunc_106_113.ok : slices_IndexFunc_106_113.c.OK Tryz.prog :=
  FnD.of slices_IndexFunc_106_113.c mix tok (fn := Tryz.f106) Tryz.func106 (by kernel_rfl) (fun _ _ => by kernel_rfl) (by kernel_rfl) (by kernel_rfl) [impl_windowAt_1.c] ⟨impl_windowAt_1.ok, trivial⟩
    [{ lbl := 4, live := [(0, none), (1, none), (7, none), (8, none)], ms := [], vs := [.c (.sl false T122), .c (.fn 113 [(.int .i64)]), .c (.int .i64), .c (.int .i64)], bs := [], f := fun k x y => slices_IndexFunc_106_113.l4 k x.1 x.2.1.1 x.2.2.1 x.2.2.2.1 }] { c := fun _ => none, cc := [], ms := [], tn := [], sh := false, fm := [] } rfl 5000 ⟨⟨fun _ _ => rfl, fun k x y => by kernel_rfl⟩, trivial⟩ (fun k x y => by kernel_rfl)

/-! ### loop.example/g00076/impl.windowAt: function 107 -/
def impl_windowAt.f (k : Nat) (a0 : List S122) (a1 : Int) : Option (Int) := (slices_IndexFunc_106_113.f k a0 a1).bind fun t1 => (some t1)
def impl_windowAt.c : FnD := { f := 107, sh := false, ps := [.c (.sl T122), .c (.int .i64)], pb := [], vc := .c (.int .i64), bs := [], R := Int, fn := fun k x y => impl_windowAt.f k x.1 x.2.1, out := fun y => (y, ()), inn := fun d => d.1, inv := fun _ => rfl }
theorem impl_windowAt.ok : impl_windowAt.c.OK Tryz.prog :=
  FnD.of impl_windowAt.c mix tok (fn := Tryz.f107) Tryz.func107 (by kernel_rfl) (fun _ _ => by kernel_rfl) (by kernel_rfl) (by kernel_rfl) [slices_IndexFunc_106_113.c] ⟨slices_IndexFunc_106_113.ok, trivial⟩
    [] { c := fun _ => none, cc := [], ms := [], tn := [], sh := false, fm := [] } rfl 5000 trivial (fun k x y => by kernel_rfl)

/-! ### loop.example/g00076/impl.runsAt: function 85 -/
def impl_runsAt.f (k : Nat) (a0 : S64) (a1 : Int) : Option (Bool) := (impl_windowAt.f k a0.f3 a1).bind fun t1 => (if t1 ≥ 0 then (if 0 ≤ t1 then (if t1 < (a0.f3.length : Int) then (some (!(decide ((bitAnd .i64 ((rd_T122 a0.f3 t1).f2) 4) = 0)))) else none) else none) else (some false))
def impl_runsAt.c : FnD := { f := 85, sh := false, ps := [.agg T64, .c (.int .i64)], pb := [], vc := .c (.bool), bs := [], R := Bool, fn := fun k x y => impl_runsAt.f k x.1 x.2.1, out := fun y => (y, ()), inn := fun d => d.1, inv := fun _ => rfl }
theorem impl_runsAt.ok : impl_runsAt.c.OK Tryz.prog :=
  FnD.of impl_runsAt.c mix tok (fn := Tryz.f85) Tryz.func85 (by kernel_rfl) (fun _ _ => by kernel_rfl) (by kernel_rfl) (by kernel_rfl) [impl_windowAt.c] ⟨impl_windowAt.ok, trivial⟩
    [] { c := fun _ => none, cc := [], ms := [], tn := [], sh := false, fm := [] } rfl 5000 trivial (fun k x y => by kernel_rfl)

/-! ### loop.example/g00076/impl.areParts: function 52 -/
mutual
def impl_areParts.l6 : Nat → (List S64) → Int → Int → S43 → (List S122) → Option (Bool)
  | 0, _, _, _, _, _ => none
  | k + 1, x9, x10, x11, y0, h1 => if x11 < x10 then (if 0 ≤ x11 then (if x11 < (x9.length : Int) then ((impl_isName.f k ((rd_T64 x9 x11).f0)).bind fun t1 => (if t1 = true then ((impl_partNamed.f k y0 ((rd_T64 x9 x11).f0)).bind fun t2 => (if t2 < x11 then (some false) else ((impl_isPolicy.f ((rd_T64 x9 x11).f2)).bind fun t3 => (if t3 = true then ((impl_within.f (((rd_T64 x9 x11).f3).length : Int) 1 4).bind fun t4 => (if t4 = true then (impl_areParts.l16 k x9 x10 x11 ((rd_T64 x9 x11).f3) (((rd_T64 x9 x11).f3).length : Int) 0 y0 h1 (rd_T64 x9 x11)) else (some false))) else (some false))))) else (some false))) else none) else none) else (some true)
def impl_areParts.l16 : Nat → (List S64) → Int → Int → (List S122) → Int → Int → S43 → (List S122) → S64 → Option (Bool)
  | 0, _, _, _, _, _, _, _, _, _ => none
  | k + 1, x9, x10, x11, x42, x43, x44, y0, h1, y2 => if x44 < x43 then (if 0 ≤ x44 then (if x44 < (x42.length : Int) then ((impl_isWindow.f (rd_T122 x42 x44)).bind fun t5 => (if t5 = true then (if (wrap64 (((rd_T122 x42 x44).f0) + ((rd_T122 x42 x44).f1))) > y0.f0 then (some false) else ((slices_ContainsFunc_82_83.f k h1 (rd_T122 x42 x44)).bind fun t6 => (if t6 = true then (some false) else (if h1.length + ([(rd_T122 x42 x44)] : List S122).length < 5864062014805 then (impl_areParts.l16 k x9 x10 x11 x42 x43 (wrap64 (x44 + 1)) y0 (h1 ++ ([(rd_T122 x42 x44)] : List S122)) y2) else none)))) else (some false))) else none) else none) else (if (Int.tmod y2.f1 4) = 0 then ((impl_runsAt.f k y2 y2.f1).bind fun t7 => (if t7 = true then (impl_areParts.l6 k x9 x10 (wrap64 (x11 + 1)) y0 h1) else (some false))) else (some false))
end
def impl_areParts.f (k : Nat) (a0 : S43) : Option (Bool) := impl_areParts.l6 k a0.f7 (a0.f7.length : Int) 0 a0 ([] : List S122)
def impl_areParts.c : FnD := { f := 52, sh := false, ps := [.agg T43], pb := [], vc := .c (.bool), bs := [], R := Bool, fn := fun k x y => impl_areParts.f k x.1, out := fun y => (y, ()), inn := fun d => d.1, inv := fun _ => rfl }
theorem impl_areParts.ok : impl_areParts.c.OK Tryz.prog :=
  FnD.of impl_areParts.c mix tok (fn := Tryz.f52) Tryz.func52 (by kernel_rfl) (fun _ _ => by kernel_rfl) (by kernel_rfl) (by kernel_rfl) [impl_isName.c, impl_partNamed.c, impl_isPolicy.c, impl_within.c, impl_isWindow.c, slices_ContainsFunc_82_83.c, impl_runsAt.c] ⟨impl_isName.ok, ⟨impl_partNamed.ok, ⟨impl_isPolicy.ok, ⟨impl_within.ok, ⟨impl_isWindow.ok, ⟨slices_ContainsFunc_82_83.ok, ⟨impl_runsAt.ok, trivial⟩⟩⟩⟩⟩⟩⟩
    [{ lbl := 6, live := [(1, none), (3, some (.row T122)), (9, none), (10, none), (11, none)], ms := [], vs := [.c (.ptr 0 0), .c (.own 1), .c (.sl false T64), .c (.int .i64), .c (.int .i64)], bs := [.cells 43 [.int .i64, .int .i64, .int .i64, .int .i64, .int .i64, .int .i64, .int .i64, .int .i64, .int .i64, .int .i64, .int .i64, .int .i64, .int .i64, .int .i64, .int .i64, .sl false T64, .sl false (.int .i64), .sl false T98, .sl false T102], .arr T122 .un], f := fun k x y => impl_areParts.l6 k x.2.2.1 x.2.2.2.1 x.2.2.2.2.1 (y.1.1, (y.1.2.1, y.1.2.2.1, y.1.2.2.2.1), y.1.2.2.2.2.1, (y.1.2.2.2.2.2.1, y.1.2.2.2.2.2.2.1, y.1.2.2.2.2.2.2.2.1, y.1.2.2.2.2.2.2.2.2.1, y.1.2.2.2.2.2.2.2.2.2.1, y.1.2.2.2.2.2.2.2.2.2.2.1, y.1.2.2.2.2.2.2.2.2.2.2.2.1), y.1.2.2.2.2.2.2.2.2.2.2.2.2.1, y.1.2.2.2.2.2.2.2.2.2.2.2.2.2.1, y.1.2.2.2.2.2.2.2.2.2.2.2.2.2.2.1, y.1.2.2.2.2.2.2.2.2.2.2.2.2.2.2.2.1, y.1.2.2.2.2.2.2.2.2.2.2.2.2.2.2.2.2.1, y.1.2.2.2.2.2.2.2.2.2.2.2.2.2.2.2.2.2.1, y.1.2.2.2.2.2.2.2.2.2.2.2.2.2.2.2.2.2.2.1) y.2.1 },
      { lbl := 16, live := [(1, none), (3, some (.row T122)), (5, none), (9, none), (10, none), (11, none), (42, none), (43, none), (44, none)], ms := [], vs := [.c (.ptr 0 0), .c (.own 1), .c (.ptr 2 0), .c (.sl false T64), .c (.int .i64), .c (.int .i64), .c (.sl false T122), .c (.int .i64), .c (.int .i64)], bs := [.cells 43 [.int .i64, .int .i64, .int .i64, .int .i64, .int .i64, .int .i64, .int .i64, .int .i64, .int .i64, .int .i64, .int .i64, .int .i64, .int .i64, .int .i64, .int .i64, .sl false T64, .sl false (.int .i64), .sl false T98, .sl false T102], .arr T122 .un, .cells 64 [.str, .int .i64, .int .i64, .int .i64, .sl false T122]], f := fun k x y => impl_areParts.l16 k x.2.2.2.1 x.2.2.2.2.1 x.2.2.2.2.2.1 x.2.2.2.2.2.2.1 x.2.2.2.2.2.2.2.1 x.2.2.2.2.2.2.2.2.1 (y.1.1, (y.1.2.1, y.1.2.2.1, y.1.2.2.2.1), y.1.2.2.2.2.1, (y.1.2.2.2.2.2.1, y.1.2.2.2.2.2.2.1, y.1.2.2.2.2.2.2.2.1, y.1.2.2.2.2.2.2.2.2.1, y.1.2.2.2.2.2.2.2.2.2.1, y.1.2.2.2.2.2.2.2.2.2.2.1, y.1.2.2.2.2.2.2.2.2.2.2.2.1), y.1.2.2.2.2.2.2.2.2.2.2.2.2.1, y.1.2.2.2.2.2.2.2.2.2.2.2.2.2.1, y.1.2.2.2.2.2.2.2.2.2.2.2.2.2.2.1, y.1.2.2.2.2.2.2.2.2.2.2.2.2.2.2.2.1, y.1.2.2.2.2.2.2.2.2.2.2.2.2.2.2.2.2.1, y.1.2.2.2.2.2.2.2.2.2.2.2.2.2.2.2.2.2.1, y.1.2.2.2.2.2.2.2.2.2.2.2.2.2.2.2.2.2.2.1) y.2.1 (y.2.2.1.1, y.2.2.1.2.1, (y.2.2.1.2.2.1, y.2.2.1.2.2.2.1), y.2.2.1.2.2.2.2.1) }] { c := fun _ => none, cc := [], ms := [], tn := [], sh := false, fm := [] } rfl 5000 ⟨⟨fun _ _ => rfl, fun k x y => by kernel_rfl⟩, ⟨⟨fun _ _ => rfl, fun k x y => by kernel_rfl⟩, trivial⟩⟩ (fun k x y => by kernel_rfl)

/-! ### loop.example/g00076/impl.isSound$1: function 54 -/
def impl_isSound_1.f (a0 : Int) (c1 : Int) : Option (Bool) := (impl_within.f a0 0 (wrap64 (c1 - 1))).bind fun t1 => (some (!t1))
def impl_isSound_1.c : FnD := { f := 54, sh := false, ps := [.c (.int .i64), .cap (.int .i64)], pb := [], vc := .c (.bool), bs := [], R := Bool, fn := fun _ x y => impl_isSound_1.f x.1 x.2.1, out := fun y => (y, ()), inn := fun d => d.1, inv := fun _ => rfl }
theorem impl_isSound_1.ok : impl_isSound_1.c.OK Tryz.prog :=
  FnD.of impl_isSound_1.c mix tok (fn := Tryz.f54) Tryz.func54 (by kernel_rfl) (fun _ _ => by kernel_rfl) (by kernel_rfl) (by kernel_rfl) [impl_within.c] ⟨impl_within.ok, trivial⟩
    [] { c := fun _ => none, cc := [], ms := [], tn := [], sh := false, fm := [] } rfl 5000 trivial (fun k x y => by kernel_rfl)

/-! ### slices.IndexFunc[[]int,int]: function 86 -/
def slices_IndexFunc_86_54.l4 : Nat → (List Int) → Int → Int → Int → Option (Int)
  | 0, _, _, _, _ => none
  | k + 1, x0, x1_0, x7, x8 => if x8 < x7 then (if 0 ≤ x8 then (if x8 < (x0.length : Int) then ((impl_isSound_1.f (rd x0 x8) x1_0).bind fun t1 => (if t1 = true then (some x8) else (slices_IndexFunc_86_54.l4 k x0 x1_0 x7 (wrap64 (x8 + 1))))) else none) else none) else (some (-1))
def slices_IndexFunc_86_54.f (k : Nat) (a0 : List Int) (p1_0 : Int) : Option (Int) := slices_IndexFunc_86_54.l4 k a0 p1_0 (a0.length : Int) 0
def slices_IndexFunc_86_54.c : FnD := { f := 86, sh := false, ps := [.c (.sl (.int .i64)), .fn 54 [(.int .i64)]], pb := [], vc := .c (.int .i64), bs := [], R := Int, fn := fun k x y => slices_IndexFunc_86_54.f k x.1 x.2.1.1, out := fun y => (y, ()), inn := fun d => d.1, inv := fun _ => rfl }
theorem slices_IndexFunc_86_54.ok : slices_IndexFunc_86_54.c.OK Tryz.prog :=
  FnD.of slices_IndexFunc_86_54.c mix tok (fn := Tryz.f86) Tryz.func86 (by kernel_rfl) (fun _ _ => by kernel_rfl) (by kernel_rfl) (by kernel_rfl) [impl_isSound_1.c] ⟨impl_isSound_1.ok, trivial⟩
    [{ lbl := 4, live := [(0, none), (1, none), (7, none), (8, none)], ms := [], vs := [.c (.sl false (.int .i64)), .c (.fn 54 [(.int .i64)]), .c (.int .i64), .c (.int .i64)], bs := [], f := fun k x y => slices_IndexFunc_86_54.l4 k x.1 x.2.1.1 x.2.2.1 x.2.2.2.1 }] { c := fun _ => none, cc := [], ms := [], tn := [], sh := false, fm := [] } rfl 5000 ⟨⟨fun _ _ => rfl, fun k x y => by kernel_rfl⟩, trivial⟩ (fun k x y => by kernel_rfl)

/-! ### slices.ContainsFunc[[]int,int]: function 53 -/
def slices_ContainsFunc_53_54.f (k : Nat) (a0 : List Int) (p1_0 : Int) : Option (Bool) := (slices_IndexFunc_86_54.f k a0 p1_0).bind fun t1 => (some (decide (t1 ≥ 0)))
def slices_ContainsFunc_53_54.c : FnD := { f := 53, sh := false, ps := [.c (.sl (.int .i64)), .fn 54 [(.int .i64)]], pb := [], vc := .c (.bool), bs := [], R := Bool, fn := fun k x y => slices_ContainsFunc_53_54.f k x.1 x.2.1.1, out := fun y => (y, ()), inn := fun d => d.1, inv := fun _ => rfl }
theorem slices_ContainsFunc_53_54.ok : slices_ContainsFunc_53_54.c.OK Tryz.prog :=
  FnD.of slices_ContainsFunc_53_54.c mix tok (fn := Tryz.f53) Tryz.func53 (by kernel_rfl) (fun _ _ => by kernel_rfl) (by kernel_rfl) (by kernel_rfl) [slices_IndexFunc_86_54.c] ⟨slices_IndexFunc_86_54.ok, trivial⟩
    [] { c := fun _ => none, cc := [], ms := [], tn := [], sh := false, fm := [] } rfl 5000 trivial (fun k x y => by kernel_rfl)

/-! ### loop.example/g00076/impl.isChan: function 57 -/
def impl_isChan.f (a0 : S98) : Option (Bool) := (impl_within.f a0.f1 0 5).bind fun t1 => (if t1 = true then ((impl_within.f a0.f2 0 5).bind fun t2 => (if t2 = true then (if a0.f1 = a0.f2 then (some false) else (if a0.f0 = 0 then (if a0.f3 = 0 then (some true) else (if a0.f0 = 1 then ((impl_within.f a0.f3 1 8).bind fun t3 => (some t3)) else (some false))) else (if a0.f0 = 1 then ((impl_within.f a0.f3 1 8).bind fun t4 => (some t4)) else (some false)))) else (some false))) else (some false))
def impl_isChan.c : FnD := { f := 57, sh := false, ps := [.agg T98], pb := [], vc := .c (.bool), bs := [], R := Bool, fn := fun _ x y => impl_isChan.f x.1, out := fun y => (y, ()), inn := fun d => d.1, inv := fun _ => rfl }
theorem impl_isChan.ok : impl_isChan.c.OK Tryz.prog :=
  FnD.of impl_isChan.c mix tok (fn := Tryz.f57) Tryz.func57 (by kernel_rfl) (fun _ _ => by kernel_rfl) (by kernel_rfl) (by kernel_rfl) [impl_within.c] ⟨impl_within.ok, trivial⟩
    [] { c := fun _ => none, cc := [], ms := [], tn := [], sh := false, fm := [] } rfl 5000 trivial (fun k x y => by kernel_rfl)

/-! ### loop.example/g00076/impl.isSound$2: function 56 -/
def impl_isSound_2.f (a0 : S98) (c1 : Int) : Option (Bool) := (impl_isChan.f a0).bind fun t1 => (if t1 = true then (if a0.f1 ≥ c1 then (some true) else (some (decide (a0.f2 ≥ c1)))) else (some true))
def impl_isSound_2.c : FnD := { f := 56, sh := false, ps := [.agg T98, .cap (.int .i64)], pb := [], vc := .c (.bool), bs := [], R := Bool, fn := fun _ x y => impl_isSound_2.f x.1 x.2.1, out := fun y => (y, ()), inn := fun d => d.1, inv := fun _ => rfl }
theorem impl_isSound_2.ok : impl_isSound_2.c.OK Tryz.prog :=
  FnD.of impl_isSound_2.c mix tok (fn := Tryz.f56) Tryz.func56 (by kernel_rfl) (fun _ _ => by kernel_rfl) (by kernel_rfl) (by kernel_rfl) [impl_isChan.c] ⟨impl_isChan.ok, trivial⟩
    [] { c := fun _ => none, cc := [], ms := [], tn := [], sh := false, fm := [] } rfl 5000 trivial (fun k x y => by kernel_rfl)

/-! ### slices.IndexFunc[[]loop.example/g00076/impl.ChanRow,loop.example/g00076/impl.ChanRow]: function 87 -/
def slices_IndexFunc_87_56.l4 : Nat → (List S98) → Int → Int → Int → Option (Int)
  | 0, _, _, _, _ => none
  | k + 1, x0, x1_0, x7, x8 => if x8 < x7 then (if 0 ≤ x8 then (if x8 < (x0.length : Int) then ((impl_isSound_2.f (rd_T98 x0 x8) x1_0).bind fun t1 => (if t1 = true then (some x8) else (slices_IndexFunc_87_56.l4 k x0 x1_0 x7 (wrap64 (x8 + 1))))) else none) else none) else (some (-1))
def slices_IndexFunc_87_56.f (k : Nat) (a0 : List S98) (p1_0 : Int) : Option (Int) := slices_IndexFunc_87_56.l4 k a0 p1_0 (a0.length : Int) 0
def slices_IndexFunc_87_56.c : FnD := { f := 87, sh := false, ps := [.c (.sl T98), .fn 56 [(.int .i64)]], pb := [], vc := .c (.int .i64), bs := [], R := Int, fn := fun k x y => slices_IndexFunc_87_56.f k x.1 x.2.1.1, out := fun y => (y, ()), inn := fun d => d.1, inv := fun _ => rfl }
theorem slices_IndexFunc_87_56.ok : slices_IndexFunc_87_56.c.OK Tryz.prog :=
  FnD.of slices_IndexFunc_87_56.c mix tok (fn := Tryz.f87) Tryz.func87 (by kernel_rfl) (fun _ _ => by kernel_rfl) (by kernel_rfl) (by kernel_rfl) [impl_isSound_2.c] ⟨impl_isSound_2.ok, trivial⟩
    [{ lbl := 4, live := [(0, none), (1, none), (7, none), (8, none)], ms := [], vs := [.c (.sl false T98), .c (.fn 56 [(.int .i64)]), .c (.int .i64), .c (.int .i64)], bs := [], f := fun k x y => slices_IndexFunc_87_56.l4 k x.1 x.2.1.1 x.2.2.1 x.2.2.2.1 }] { c := fun _ => none, cc := [], ms := [], tn := [], sh := false, fm := [] } rfl 5000 ⟨⟨fun _ _ => rfl, fun k x y => by kernel_rfl⟩, trivial⟩ (fun k x y => by kernel_rfl)

/-! ### slices.ContainsFunc[[]loop.example/g00076/impl.ChanRow,loop.example/g00076/impl.ChanRow]: function 55 -/
def slices_ContainsFunc_55_56.f (k : Nat) (a0 : List S98) (p1_0 : Int) : Option (Bool) := (slices_IndexFunc_87_56.f k a0 p1_0).bind fun t1 => (some (decide (t1 ≥ 0)))
def slices_ContainsFunc_55_56.c : FnD := { f := 55, sh := false, ps := [.c (.sl T98), .fn 56 [(.int .i64)]], pb := [], vc := .c (.bool), bs := [], R := Bool, fn := fun k x y => slices_ContainsFunc_55_56.f k x.1 x.2.1.1, out := fun y => (y, ()), inn := fun d => d.1, inv := fun _ => rfl }
theorem slices_ContainsFunc_55_56.ok : slices_ContainsFunc_55_56.c.OK Tryz.prog :=
  FnD.of slices_ContainsFunc_55_56.c mix tok (fn := Tryz.f55) Tryz.func55 (by kernel_rfl) (fun _ _ => by kernel_rfl) (by kernel_rfl) (by kernel_rfl) [slices_IndexFunc_87_56.c] ⟨slices_IndexFunc_87_56.ok, trivial⟩
    [] { c := fun _ => none, cc := [], ms := [], tn := [], sh := false, fm := [] } rfl 5000 trivial (fun k x y => by kernel_rfl)

end
end Go.Proofs.YtmdnpaekamkknaaGreatDoor.PPs
