/- Go functions as Lean functions, each with its contract. -/
import Derived.Test.YtgnhojiogkeepaaGreatQMex1
set_option linter.unusedVariables false
set_option maxRecDepth 100000
namespace Go.Proofs.YtgnhojiogkeepaaGreat.PMe
open Go Go.Proofs Go.RowKit Go.Proofs.YtgnhojiogkeepaaGreat.V
noncomputable section
/-! ### loop.example/g00076/spec.l13Slots: function 54 -/
def spec_l13Slots.l10 : Nat → Int → Int → S39 → Option (Bool)
  | 0, _, _, _ => none
  | k + 1, x3, x4, y0 => if x4 < (y0.f10.length : Int) then (if 0 ≤ x4 then (if x4 < (y0.f10.length : Int) then ((spec_l01In.f ((rd_T55 y0.f10 x4).f0) 0 (wrap64 ((y0.f7.length : Int) - 1))).bind fun t2 => (if t2 = true then ((spec_l01In.f ((rd_T55 y0.f10 x4).f1) x3 5000).bind fun t3 => (if t3 = true then ((spec_l01In.f ((rd_T55 y0.f10 x4).f2) (wrap64 ((wrap64 (y0.f4 + y0.f5)) + 1)) 5000).bind fun t4 => (if t4 = true then (if (wrap64 (((rd_T55 y0.f10 x4).f1) + ((rd_T55 y0.f10 x4).f2))) > y0.f6 then (some false) else (spec_l13Slots.l10 k (wrap64 (((rd_T55 y0.f10 x4).f1) + ((rd_T55 y0.f10 x4).f2))) (wrap64 (x4 + 1)) y0)) else (some false))) else (some false))) else (some false))) else none) else none) else (some true)
def spec_l13Slots.f (k : Nat) (a0 : S39) : Option (Bool) := (spec_l01In.f (a0.f10.length : Int) 1 16).bind fun t1 => (if t1 = true then (spec_l13Slots.l10 k 0 0 a0) else (some false))
def spec_l13Slots.c : FnD := { f := 54, sh := false, ps := [.agg T39], pb := [], vc := .c (.bool), bs := [], R := Bool, fn := fun k x y => spec_l13Slots.f k x.1, out := fun y => (y, ()), inn := fun d => d.1, inv := fun _ => rfl }
theorem spec_l13Slots.ok : spec_l13Slots.c.OK Tryz.prog :=
  FnD.of spec_l13Slots.c mix tok (fn := Tryz.f54) Tryz.func54 (by kernel_rfl) (fun _ _ => by kernel_rfl) (by kernel_rfl) (by kernel_rfl) [spec_l01In.c] ⟨spec_l01In.ok, trivial⟩
    [{ lbl := 10, live := [(1, none), (3, none), (4, none)], ms := [], vs := [.c (.ptr 0 0), .c (.int .i64), .c (.int .i64)], bs := [.cells 39 [.int .i64, .int .i64, .int .i64, .int .i64, .int .i64, .int .i64, .int .i64, .int .i64, .int .i64, .int .i64, .int .i64, .int .i64, .int .i64, .int .i64, .int .i64, .sl false T85, .sl false (.int .i64), .sl false T88, .sl false T55]], f := fun k x y => spec_l13Slots.l10 k x.2.1 x.2.2.1 (y.1.1, (y.1.2.1, y.1.2.2.1, y.1.2.2.2.1), y.1.2.2.2.2.1, (y.1.2.2.2.2.2.1, y.1.2.2.2.2.2.2.1, y.1.2.2.2.2.2.2.2.1, y.1.2.2.2.2.2.2.2.2.1, y.1.2.2.2.2.2.2.2.2.2.1, y.1.2.2.2.2.2.2.2.2.2.2.1, y.1.2.2.2.2.2.2.2.2.2.2.2.1), y.1.2.2.2.2.2.2.2.2.2.2.2.2.1, y.1.2.2.2.2.2.2.2.2.2.2.2.2.2.1, y.1.2.2.2.2.2.2.2.2.2.2.2.2.2.2.1, y.1.2.2.2.2.2.2.2.2.2.2.2.2.2.2.2.1, y.1.2.2.2.2.2.2.2.2.2.2.2.2.2.2.2.2.1, y.1.2.2.2.2.2.2.2.2.2.2.2.2.2.2.2.2.2.1, y.1.2.2.2.2.2.2.2.2.2.2.2.2.2.2.2.2.2.2.1) }] { c := fun _ => none, cc := [], ms := [], tn := [], sh := false, fm := [] } rfl 5000 ⟨⟨fun _ _ => rfl, fun k x y => by kernel_rfl⟩, trivial⟩ (fun k x y => by kernel_rfl)

/-! ### loop.example/g00076/spec.Sound: function 21 -/
def spec_Sound.f (k : Nat) (a0 : S39) : Option (Bool) := (spec_l13Head.f k a0).bind fun t1 => (if t1 = true then ((spec_l13Parts.f k a0).bind fun t2 => (if t2 = true then ((spec_l13Chans.f k a0).bind fun t3 => (if t3 = true then ((spec_l13Slots.f k a0).bind fun t4 => (some t4)) else (some false))) else (some false))) else (some false))
def spec_Sound.c : FnD := { f := 21, sh := false, ps := [.agg T39], pb := [], vc := .c (.bool), bs := [], R := Bool, fn := fun k x y => spec_Sound.f k x.1, out := fun y => (y, ()), inn := fun d => d.1, inv := fun _ => rfl }
theorem spec_Sound.ok : spec_Sound.c.OK Tryz.prog :=
  FnD.of spec_Sound.c mix tok (fn := Tryz.f21) Tryz.func21 (by kernel_rfl) (fun _ _ => by kernel_rfl) (by kernel_rfl) (by kernel_rfl) [spec_l13Head.c, spec_l13Parts.c, spec_l13Chans.c, spec_l13Slots.c] ⟨spec_l13Head.ok, ⟨spec_l13Parts.ok, ⟨spec_l13Chans.ok, ⟨spec_l13Slots.ok, trivial⟩⟩⟩⟩
    [] { c := fun _ => none, cc := [], ms := [], tn := [], sh := false, fm := [] } rfl 5000 trivial (fun k x y => by kernel_rfl)

/-! ### loop.example/g00076/spec.l23Copy: function 23 -/
def spec_l23Copy.l14 : Nat → Int → S39 → S39 → S39 → Option (S39)
  | 0, _, _, _, _ => none
  | k + 1, x6, y0, y1, y2 => if x6 < (y0.f7.length : Int) then (if 0 ≤ x6 then (if x6 < (y0.f7.length : Int) then (if 0 ≤ x6 then (if x6 < (y0.f7.length : Int) then (if ([] : List S104).length + ((rd_T85 y0.f7 x6).f3).length < 5864062014805 then (if y2.f7.length + ([(⟨(rd_T85 y0.f7 x6).f0, (rd_T85 y0.f7 x6).f1, (rd_T85 y0.f7 x6).f2, (([] : List S104) ++ ((rd_T85 y0.f7 x6).f3))⟩ : S85)] : List S85).length < 2199023255552 then (spec_l23Copy.l14 k (wrap64 (x6 + 1)) y0 (⟨y1.f0, y1.f1, y1.f2, y1.f3, y1.f4, y1.f5, y1.f6, ([] : List S85), ([] : List Int), ([] : List S88), ([] : List S55)⟩ : S39) (⟨y2.f0, y2.f1, y2.f2, y2.f3, y2.f4, y2.f5, y2.f6, (y2.f7 ++ ([(⟨(rd_T85 y0.f7 x6).f0, (rd_T85 y0.f7 x6).f1, (rd_T85 y0.f7 x6).f2, (([] : List S104) ++ ((rd_T85 y0.f7 x6).f3))⟩ : S85)] : List S85)), y2.f8, y2.f9, y2.f10⟩ : S39)) else none) else none) else none) else none) else none) else none) else (some y2)
def spec_l23Copy.f (k : Nat) (a0 : S39) (a1 : List S55) : Option (S39) := if ([] : List S55).length + a1.length < 5864062014805 then (if ([] : List Int).length + a0.f8.length < 17592186044416 then (if ([] : List S88).length + a0.f9.length < 4398046511104 then (spec_l23Copy.l14 k 0 a0 (⟨0, (⟨0, 0, 0⟩ : S33), 0, (⟨0, 0, 0, 0, 0, 0, 0⟩ : S34), 0, 0, 0, ([] : List S85), ([] : List Int), ([] : List S88), ([] : List S55)⟩ : S39) (⟨a0.f0, a0.f1, a0.f2, a0.f3, a0.f4, a0.f5, a0.f6, ([] : List S85), (([] : List Int) ++ a0.f8), (([] : List S88) ++ a0.f9), (([] : List S55) ++ a1)⟩ : S39)) else none) else none) else none
def spec_l23Copy.c : FnD := { f := 23, sh := false, ps := [.agg T39, .c (.sl T55)], pb := [], vc := .agg [.int .i64, .int .i64, .int .i64, .int .i64, .int .i64, .int .i64, .int .i64, .int .i64, .int .i64, .int .i64, .int .i64, .int .i64, .int .i64, .int .i64, .int .i64, .own 0, .own 1, .own 2, .own 3], bs := [.arr T85 .un, .arr (.int .i64) .un, .arr T88 .un, .arr T55 .un], R := S39, fn := fun k x y => spec_l23Copy.f k x.1 x.2.1, out := fun y => ((y.1, y.2.1.1, y.2.1.2.1, y.2.1.2.2, y.2.2.1, y.2.2.2.1.1, y.2.2.2.1.2.1, y.2.2.2.1.2.2.1, y.2.2.2.1.2.2.2.1, y.2.2.2.1.2.2.2.2.1, y.2.2.2.1.2.2.2.2.2.1, y.2.2.2.1.2.2.2.2.2.2, y.2.2.2.2.1, y.2.2.2.2.2.1, y.2.2.2.2.2.2.1, (), (), (), (), ()), (y.2.2.2.2.2.2.2.1, y.2.2.2.2.2.2.2.2.1, y.2.2.2.2.2.2.2.2.2.1, y.2.2.2.2.2.2.2.2.2.2, ())), inn := fun d => (d.1.1, (d.1.2.1, d.1.2.2.1, d.1.2.2.2.1), d.1.2.2.2.2.1, (d.1.2.2.2.2.2.1, d.1.2.2.2.2.2.2.1, d.1.2.2.2.2.2.2.2.1, d.1.2.2.2.2.2.2.2.2.1, d.1.2.2.2.2.2.2.2.2.2.1, d.1.2.2.2.2.2.2.2.2.2.2.1, d.1.2.2.2.2.2.2.2.2.2.2.2.1), d.1.2.2.2.2.2.2.2.2.2.2.2.2.1, d.1.2.2.2.2.2.2.2.2.2.2.2.2.2.1, d.1.2.2.2.2.2.2.2.2.2.2.2.2.2.2.1, d.2.1, d.2.2.1, d.2.2.2.1, d.2.2.2.2.1), inv := fun _ => rfl }
theorem spec_l23Copy.ok : spec_l23Copy.c.OK Tryz.prog :=
  FnD.of spec_l23Copy.c mix tok (fn := Tryz.f23) Tryz.func23 (by kernel_rfl) (fun _ _ => by kernel_rfl) (by kernel_rfl) (by kernel_rfl) [] trivial
    [{ lbl := 14, live := [(2, none), (4, none), (5, none), (6, none)], ms := [], vs := [.c (.ptr 0 0), .c (.ptr 1 0), .c (.ptr 2 0), .c (.int .i64)], bs := [.cells 39 [.int .i64, .int .i64, .int .i64, .int .i64, .int .i64, .int .i64, .int .i64, .int .i64, .int .i64, .int .i64, .int .i64, .int .i64, .int .i64, .int .i64, .int .i64, .sl false T85, .sl false (.int .i64), .sl false T88, .sl false T55], .cells 39 [.int .i64, .int .i64, .int .i64, .int .i64, .int .i64, .int .i64, .int .i64, .int .i64, .int .i64, .int .i64, .int .i64, .int .i64, .int .i64, .int .i64, .int .i64, .nil, .nil, .nil, .nil], .cells 39 [.int .i64, .int .i64, .int .i64, .int .i64, .int .i64, .int .i64, .int .i64, .int .i64, .int .i64, .int .i64, .int .i64, .int .i64, .int .i64, .int .i64, .int .i64, .own 3, .own 4, .own 5, .own 6], .arr T85 .un, .arr (.int .i64) .un, .arr T88 .un, .arr T55 .un], f := fun k x y => spec_l23Copy.l14 k x.2.2.2.1 (y.1.1, (y.1.2.1, y.1.2.2.1, y.1.2.2.2.1), y.1.2.2.2.2.1, (y.1.2.2.2.2.2.1, y.1.2.2.2.2.2.2.1, y.1.2.2.2.2.2.2.2.1, y.1.2.2.2.2.2.2.2.2.1, y.1.2.2.2.2.2.2.2.2.2.1, y.1.2.2.2.2.2.2.2.2.2.2.1, y.1.2.2.2.2.2.2.2.2.2.2.2.1), y.1.2.2.2.2.2.2.2.2.2.2.2.2.1, y.1.2.2.2.2.2.2.2.2.2.2.2.2.2.1, y.1.2.2.2.2.2.2.2.2.2.2.2.2.2.2.1, y.1.2.2.2.2.2.2.2.2.2.2.2.2.2.2.2.1, y.1.2.2.2.2.2.2.2.2.2.2.2.2.2.2.2.2.1, y.1.2.2.2.2.2.2.2.2.2.2.2.2.2.2.2.2.2.1, y.1.2.2.2.2.2.2.2.2.2.2.2.2.2.2.2.2.2.2.1) (y.2.1.1, (y.2.1.2.1, y.2.1.2.2.1, y.2.1.2.2.2.1), y.2.1.2.2.2.2.1, (y.2.1.2.2.2.2.2.1, y.2.1.2.2.2.2.2.2.1, y.2.1.2.2.2.2.2.2.2.1, y.2.1.2.2.2.2.2.2.2.2.1, y.2.1.2.2.2.2.2.2.2.2.2.1, y.2.1.2.2.2.2.2.2.2.2.2.2.1, y.2.1.2.2.2.2.2.2.2.2.2.2.2.1), y.2.1.2.2.2.2.2.2.2.2.2.2.2.2.1, y.2.1.2.2.2.2.2.2.2.2.2.2.2.2.2.1, y.2.1.2.2.2.2.2.2.2.2.2.2.2.2.2.2.1, [], [], [], []) (y.2.2.1.1, (y.2.2.1.2.1, y.2.2.1.2.2.1, y.2.2.1.2.2.2.1), y.2.2.1.2.2.2.2.1, (y.2.2.1.2.2.2.2.2.1, y.2.2.1.2.2.2.2.2.2.1, y.2.2.1.2.2.2.2.2.2.2.1, y.2.2.1.2.2.2.2.2.2.2.2.1, y.2.2.1.2.2.2.2.2.2.2.2.2.1, y.2.2.1.2.2.2.2.2.2.2.2.2.2.1, y.2.2.1.2.2.2.2.2.2.2.2.2.2.2.1), y.2.2.1.2.2.2.2.2.2.2.2.2.2.2.2.1, y.2.2.1.2.2.2.2.2.2.2.2.2.2.2.2.2.1, y.2.2.1.2.2.2.2.2.2.2.2.2.2.2.2.2.2.1, y.2.2.2.1, y.2.2.2.2.1, y.2.2.2.2.2.1, y.2.2.2.2.2.2.1) }] { c := fun _ => none, cc := [], ms := [], tn := [], sh := false, fm := [] } rfl 5000 ⟨⟨fun _ _ => rfl, fun k x y => by kernel_rfl⟩, trivial⟩ (fun k x y => by kernel_rfl)

/-! ### loop.example/g00076/spec.Merge: function 7 -/
def spec_Merge.l9 : Nat → Int → S39 → S39 → S55 → S55 → Option (S39 × Bool)
  | 0, _, _, _, _, _ => none
  | k + 1, x1, y0, y1, y2, y3 => if y2.f0 = y3.f0 then (if (wrap64 (y2.f1 + y2.f2)) = y3.f1 then (if (0 : Int) ≤ x1 then (if x1 ≤ (y0.f10.length : Int) then (if ([] : List S55).length + ((y0.f10.take x1.toNat).drop (0 : Int).toNat).length < 5864062014805 then (if (([] : List S55) ++ ((y0.f10.take x1.toNat).drop (0 : Int).toNat)).length + ([(⟨y2.f0, y2.f1, (wrap64 (y2.f2 + y3.f2))⟩ : S55)] : List S55).length < 5864062014805 then (if 0 ≤ (wrap64 (x1 + 2)) then (if (wrap64 (x1 + 2)) ≤ (y0.f10.length : Int) then (if (y0.f10.length : Int) ≤ (y0.f10.length : Int) then (if ((([] : List S55) ++ ((y0.f10.take x1.toNat).drop (0 : Int).toNat)) ++ ([(⟨y2.f0, y2.f1, (wrap64 (y2.f2 + y3.f2))⟩ : S55)] : List S55)).length + ((y0.f10.take (y0.f10.length : Int).toNat).drop (wrap64 (x1 + 2)).toNat).length < 5864062014805 then ((spec_l23Copy.f k y0 (((([] : List S55) ++ ((y0.f10.take x1.toNat).drop (0 : Int).toNat)) ++ ([(⟨y2.f0, y2.f1, (wrap64 (y2.f2 + y3.f2))⟩ : S55)] : List S55)) ++ ((y0.f10.take (y0.f10.length : Int).toNat).drop (wrap64 (x1 + 2)).toNat))).bind fun t3 => (some (t3, true))) else none) else none) else none) else none) else none) else none) else none) else none) else (some ((⟨0, (⟨0, 0, 0⟩ : S33), 0, (⟨0, 0, 0, 0, 0, 0, 0⟩ : S34), 0, 0, 0, ([] : List S85), ([] : List Int), ([] : List S88), ([] : List S55)⟩ : S39), false))) else (some ((⟨0, (⟨0, 0, 0⟩ : S33), 0, (⟨0, 0, 0, 0, 0, 0, 0⟩ : S34), 0, 0, 0, ([] : List S85), ([] : List Int), ([] : List S88), ([] : List S55)⟩ : S39), false))
def spec_Merge.f (k : Nat) (a0 : S39) (a1 : Int) : Option (S39 × Bool) := (spec_Sound.f k a0).bind fun t1 => (if t1 = true then ((spec_l01In.f a1 0 (wrap64 ((a0.f10.length : Int) - 2))).bind fun t2 => (if t2 = true then (if 0 ≤ a1 then (if a1 < (a0.f10.length : Int) then (sameO (if 0 ≤ (wrap64 (a1 + 1)) then (if (wrap64 (a1 + 1)) < (a0.f10.length : Int) then (sameO (sameO (spec_Merge.l9 k a1 a0 (⟨0, (⟨0, 0, 0⟩ : S33), 0, (⟨0, 0, 0, 0, 0, 0, 0⟩ : S34), 0, 0, 0, ([] : List S85), ([] : List Int), ([] : List S88), ([] : List S55)⟩ : S39) (rd_T55 a0.f10 a1) (rd_T55 a0.f10 (wrap64 (a1 + 1)))) (spec_Merge.l9 k a1 a0 (⟨0, (⟨0, 0, 0⟩ : S33), 0, (⟨0, 0, 0, 0, 0, 0, 0⟩ : S34), 0, 0, 0, ([] : List S85), ([] : List Int), ([] : List S88), ([] : List S55)⟩ : S39) (rd_T55 a0.f10 a1) (rd_T55 a0.f10 (wrap64 (a1 + 1))))) (sameO (sameO (spec_Merge.l9 k a1 a0 (⟨0, (⟨0, 0, 0⟩ : S33), 0, (⟨0, 0, 0, 0, 0, 0, 0⟩ : S34), 0, 0, 0, ([] : List S85), ([] : List Int), ([] : List S88), ([] : List S55)⟩ : S39) (rd_T55 a0.f10 a1) (rd_T55 a0.f10 (wrap64 (a1 + 1)))) (sameO (spec_Merge.l9 k a1 a0 (⟨0, (⟨0, 0, 0⟩ : S33), 0, (⟨0, 0, 0, 0, 0, 0, 0⟩ : S34), 0, 0, 0, ([] : List S85), ([] : List Int), ([] : List S88), ([] : List S55)⟩ : S39) (rd_T55 a0.f10 a1) (rd_T55 a0.f10 (wrap64 (a1 + 1)))) (spec_Merge.l9 k a1 a0 (⟨0, (⟨0, 0, 0⟩ : S33), 0, (⟨0, 0, 0, 0, 0, 0, 0⟩ : S34), 0, 0, 0, ([] : List S85), ([] : List Int), ([] : List S88), ([] : List S55)⟩ : S39) (rd_T55 a0.f10 a1) (rd_T55 a0.f10 (wrap64 (a1 + 1)))))) (sameO (spec_Merge.l9 k a1 a0 (⟨0, (⟨0, 0, 0⟩ : S33), 0, (⟨0, 0, 0, 0, 0, 0, 0⟩ : S34), 0, 0, 0, ([] : List S85), ([] : List Int), ([] : List S88), ([] : List S55)⟩ : S39) (rd_T55 a0.f10 a1) (rd_T55 a0.f10 (wrap64 (a1 + 1)))) (sameO (spec_Merge.l9 k a1 a0 (⟨0, (⟨0, 0, 0⟩ : S33), 0, (⟨0, 0, 0, 0, 0, 0, 0⟩ : S34), 0, 0, 0, ([] : List S85), ([] : List Int), ([] : List S88), ([] : List S55)⟩ : S39) (rd_T55 a0.f10 a1) (rd_T55 a0.f10 (wrap64 (a1 + 1)))) (spec_Merge.l9 k a1 a0 (⟨0, (⟨0, 0, 0⟩ : S33), 0, (⟨0, 0, 0, 0, 0, 0, 0⟩ : S34), 0, 0, 0, ([] : List S85), ([] : List Int), ([] : List S88), ([] : List S55)⟩ : S39) (rd_T55 a0.f10 a1) (rd_T55 a0.f10 (wrap64 (a1 + 1)))))))) else none) else none) (sameO (sameO (if 0 ≤ (wrap64 (a1 + 1)) then (if (wrap64 (a1 + 1)) < (a0.f10.length : Int) then (sameO (spec_Merge.l9 k a1 a0 (⟨0, (⟨0, 0, 0⟩ : S33), 0, (⟨0, 0, 0, 0, 0, 0, 0⟩ : S34), 0, 0, 0, ([] : List S85), ([] : List Int), ([] : List S88), ([] : List S55)⟩ : S39) (rd_T55 a0.f10 a1) (rd_T55 a0.f10 (wrap64 (a1 + 1)))) (sameO (spec_Merge.l9 k a1 a0 (⟨0, (⟨0, 0, 0⟩ : S33), 0, (⟨0, 0, 0, 0, 0, 0, 0⟩ : S34), 0, 0, 0, ([] : List S85), ([] : List Int), ([] : List S88), ([] : List S55)⟩ : S39) (rd_T55 a0.f10 a1) (rd_T55 a0.f10 (wrap64 (a1 + 1)))) (spec_Merge.l9 k a1 a0 (⟨0, (⟨0, 0, 0⟩ : S33), 0, (⟨0, 0, 0, 0, 0, 0, 0⟩ : S34), 0, 0, 0, ([] : List S85), ([] : List Int), ([] : List S88), ([] : List S55)⟩ : S39) (rd_T55 a0.f10 a1) (rd_T55 a0.f10 (wrap64 (a1 + 1)))))) else none) else none) (sameO (if 0 ≤ (wrap64 (a1 + 1)) then (if (wrap64 (a1 + 1)) < (a0.f10.length : Int) then (sameO (spec_Merge.l9 k a1 a0 (⟨0, (⟨0, 0, 0⟩ : S33), 0, (⟨0, 0, 0, 0, 0, 0, 0⟩ : S34), 0, 0, 0, ([] : List S85), ([] : List Int), ([] : List S88), ([] : List S55)⟩ : S39) (rd_T55 a0.f10 a1) (rd_T55 a0.f10 (wrap64 (a1 + 1)))) (spec_Merge.l9 k a1 a0 (⟨0, (⟨0, 0, 0⟩ : S33), 0, (⟨0, 0, 0, 0, 0, 0, 0⟩ : S34), 0, 0, 0, ([] : List S85), ([] : List Int), ([] : List S88), ([] : List S55)⟩ : S39) (rd_T55 a0.f10 a1) (rd_T55 a0.f10 (wrap64 (a1 + 1))))) else none) else none) (if 0 ≤ (wrap64 (a1 + 1)) then (if (wrap64 (a1 + 1)) < (a0.f10.length : Int) then (spec_Merge.l9 k a1 a0 (⟨0, (⟨0, 0, 0⟩ : S33), 0, (⟨0, 0, 0, 0, 0, 0, 0⟩ : S34), 0, 0, 0, ([] : List S85), ([] : List Int), ([] : List S88), ([] : List S55)⟩ : S39) (rd_T55 a0.f10 a1) (rd_T55 a0.f10 (wrap64 (a1 + 1)))) else none) else none))) (sameO (if 0 ≤ (wrap64 (a1 + 1)) then (if (wrap64 (a1 + 1)) < (a0.f10.length : Int) then (sameO (spec_Merge.l9 k a1 a0 (⟨0, (⟨0, 0, 0⟩ : S33), 0, (⟨0, 0, 0, 0, 0, 0, 0⟩ : S34), 0, 0, 0, ([] : List S85), ([] : List Int), ([] : List S88), ([] : List S55)⟩ : S39) (rd_T55 a0.f10 a1) (rd_T55 a0.f10 (wrap64 (a1 + 1)))) (sameO (spec_Merge.l9 k a1 a0 (⟨0, (⟨0, 0, 0⟩ : S33), 0, (⟨0, 0, 0, 0, 0, 0, 0⟩ : S34), 0, 0, 0, ([] : List S85), ([] : List Int), ([] : List S88), ([] : List S55)⟩ : S39) (rd_T55 a0.f10 a1) (rd_T55 a0.f10 (wrap64 (a1 + 1)))) (spec_Merge.l9 k a1 a0 (⟨0, (⟨0, 0, 0⟩ : S33), 0, (⟨0, 0, 0, 0, 0, 0, 0⟩ : S34), 0, 0, 0, ([] : List S85), ([] : List Int), ([] : List S88), ([] : List S55)⟩ : S39) (rd_T55 a0.f10 a1) (rd_T55 a0.f10 (wrap64 (a1 + 1)))))) else none) else none) (sameO (if 0 ≤ (wrap64 (a1 + 1)) then (if (wrap64 (a1 + 1)) < (a0.f10.length : Int) then (sameO (spec_Merge.l9 k a1 a0 (⟨0, (⟨0, 0, 0⟩ : S33), 0, (⟨0, 0, 0, 0, 0, 0, 0⟩ : S34), 0, 0, 0, ([] : List S85), ([] : List Int), ([] : List S88), ([] : List S55)⟩ : S39) (rd_T55 a0.f10 a1) (rd_T55 a0.f10 (wrap64 (a1 + 1)))) (spec_Merge.l9 k a1 a0 (⟨0, (⟨0, 0, 0⟩ : S33), 0, (⟨0, 0, 0, 0, 0, 0, 0⟩ : S34), 0, 0, 0, ([] : List S85), ([] : List Int), ([] : List S88), ([] : List S55)⟩ : S39) (rd_T55 a0.f10 a1) (rd_T55 a0.f10 (wrap64 (a1 + 1))))) else none) else none) (if 0 ≤ (wrap64 (a1 + 1)) then (if (wrap64 (a1 + 1)) < (a0.f10.length : Int) then (spec_Merge.l9 k a1 a0 (⟨0, (⟨0, 0, 0⟩ : S33), 0, (⟨0, 0, 0, 0, 0, 0, 0⟩ : S34), 0, 0, 0, ([] : List S85), ([] : List Int), ([] : List S88), ([] : List S55)⟩ : S39) (rd_T55 a0.f10 a1) (rd_T55 a0.f10 (wrap64 (a1 + 1)))) else none) else none))))) else none) else none) else (some ((⟨0, (⟨0, 0, 0⟩ : S33), 0, (⟨0, 0, 0, 0, 0, 0, 0⟩ : S34), 0, 0, 0, ([] : List S85), ([] : List Int), ([] : List S88), ([] : List S55)⟩ : S39), false)))) else (some ((⟨0, (⟨0, 0, 0⟩ : S33), 0, (⟨0, 0, 0, 0, 0, 0, 0⟩ : S34), 0, 0, 0, ([] : List S85), ([] : List Int), ([] : List S88), ([] : List S55)⟩ : S39), false)))
def spec_Merge.c : FnD := { f := 7, sh := false, ps := [.agg T39, .c (.int .i64)], pb := [], vc := .tup [(true, [.int .i64, .int .i64, .int .i64, .int .i64, .int .i64, .int .i64, .int .i64, .int .i64, .int .i64, .int .i64, .int .i64, .int .i64, .int .i64, .int .i64, .int .i64, .own 0, .own 1, .own 2, .own 3]), (false, [.bool])], bs := [.arr T85 .un, .arr (.int .i64) .un, .arr T88 .un, .arr T55 .un], R := S39 × Bool, fn := fun k x y => spec_Merge.f k x.1 x.2.1, out := fun y => (((y.1.1, y.1.2.1.1, y.1.2.1.2.1, y.1.2.1.2.2, y.1.2.2.1, y.1.2.2.2.1.1, y.1.2.2.2.1.2.1, y.1.2.2.2.1.2.2.1, y.1.2.2.2.1.2.2.2.1, y.1.2.2.2.1.2.2.2.2.1, y.1.2.2.2.1.2.2.2.2.2.1, y.1.2.2.2.1.2.2.2.2.2.2, y.1.2.2.2.2.1, y.1.2.2.2.2.2.1, y.1.2.2.2.2.2.2.1, (), (), (), (), ()), (y.2, ()), ()), (y.1.2.2.2.2.2.2.2.1, y.1.2.2.2.2.2.2.2.2.1, y.1.2.2.2.2.2.2.2.2.2.1, y.1.2.2.2.2.2.2.2.2.2.2, ())), inn := fun d => ((d.1.1.1, (d.1.1.2.1, d.1.1.2.2.1, d.1.1.2.2.2.1), d.1.1.2.2.2.2.1, (d.1.1.2.2.2.2.2.1, d.1.1.2.2.2.2.2.2.1, d.1.1.2.2.2.2.2.2.2.1, d.1.1.2.2.2.2.2.2.2.2.1, d.1.1.2.2.2.2.2.2.2.2.2.1, d.1.1.2.2.2.2.2.2.2.2.2.2.1, d.1.1.2.2.2.2.2.2.2.2.2.2.2.1), d.1.1.2.2.2.2.2.2.2.2.2.2.2.2.1, d.1.1.2.2.2.2.2.2.2.2.2.2.2.2.2.1, d.1.1.2.2.2.2.2.2.2.2.2.2.2.2.2.2.1, d.2.1, d.2.2.1, d.2.2.2.1, d.2.2.2.2.1), d.1.2.1.1), inv := fun _ => rfl }
theorem spec_Merge.ok : spec_Merge.c.OK Tryz.prog :=
  FnD.of spec_Merge.c mix tok (fn := Tryz.f7) Tryz.func7 (by kernel_rfl) (fun _ _ => by kernel_rfl) (by kernel_rfl) (by kernel_rfl) [spec_Sound.c, spec_l01In.c, spec_l23Copy.c] ⟨spec_Sound.ok, ⟨spec_l01In.ok, ⟨spec_l23Copy.ok, trivial⟩⟩⟩
    [{ lbl := 9, live := [(1, none), (2, none), (4, none), (6, none), (7, none)], ms := [], vs := [.c (.int .i64), .c (.ptr 0 0), .c (.ptr 1 0), .c (.ptr 2 0), .c (.ptr 3 0)], bs := [.cells 39 [.int .i64, .int .i64, .int .i64, .int .i64, .int .i64, .int .i64, .int .i64, .int .i64, .int .i64, .int .i64, .int .i64, .int .i64, .int .i64, .int .i64, .int .i64, .sl false T85, .sl false (.int .i64), .sl false T88, .sl false T55], .cells 39 [.int .i64, .int .i64, .int .i64, .int .i64, .int .i64, .int .i64, .int .i64, .int .i64, .int .i64, .int .i64, .int .i64, .int .i64, .int .i64, .int .i64, .int .i64, .nil, .nil, .nil, .nil], .cells 55 [.int .i64, .int .i64, .int .i64], .cells 55 [.int .i64, .int .i64, .int .i64]], f := fun k x y => spec_Merge.l9 k x.1 (y.1.1, (y.1.2.1, y.1.2.2.1, y.1.2.2.2.1), y.1.2.2.2.2.1, (y.1.2.2.2.2.2.1, y.1.2.2.2.2.2.2.1, y.1.2.2.2.2.2.2.2.1, y.1.2.2.2.2.2.2.2.2.1, y.1.2.2.2.2.2.2.2.2.2.1, y.1.2.2.2.2.2.2.2.2.2.2.1, y.1.2.2.2.2.2.2.2.2.2.2.2.1), y.1.2.2.2.2.2.2.2.2.2.2.2.2.1, y.1.2.2.2.2.2.2.2.2.2.2.2.2.2.1, y.1.2.2.2.2.2.2.2.2.2.2.2.2.2.2.1, y.1.2.2.2.2.2.2.2.2.2.2.2.2.2.2.2.1, y.1.2.2.2.2.2.2.2.2.2.2.2.2.2.2.2.2.1, y.1.2.2.2.2.2.2.2.2.2.2.2.2.2.2.2.2.2.1, y.1.2.2.2.2.2.2.2.2.2.2.2.2.2.2.2.2.2.2.1) (y.2.1.1, (y.2.1.2.1, y.2.1.2.2.1, y.2.1.2.2.2.1), y.2.1.2.2.2.2.1, (y.2.1.2.2.2.2.2.1, y.2.1.2.2.2.2.2.2.1, y.2.1.2.2.2.2.2.2.2.1, y.2.1.2.2.2.2.2.2.2.2.1, y.2.1.2.2.2.2.2.2.2.2.2.1, y.2.1.2.2.2.2.2.2.2.2.2.2.1, y.2.1.2.2.2.2.2.2.2.2.2.2.2.1), y.2.1.2.2.2.2.2.2.2.2.2.2.2.2.1, y.2.1.2.2.2.2.2.2.2.2.2.2.2.2.2.1, y.2.1.2.2.2.2.2.2.2.2.2.2.2.2.2.2.1, [], [], [], []) (y.2.2.1.1, y.2.2.1.2.1, y.2.2.1.2.2.1) (y.2.2.2.1.1, y.2.2.2.1.2.1, y.2.2.2.1.2.2.1) }] { c := fun n => bif Nat.beq n 15 then some (.row T85) else bif Nat.beq n 16 then some (.row (.int .i64)) else bif Nat.beq n 17 then some (.row T88) else bif Nat.beq n 18 then some (.row T55) else  none, cc := [], ms := [], tn := [], sh := false, fm := [] } rfl 5000 ⟨⟨fun _ _ => rfl, fun k x y => by kernel_rfl⟩, trivial⟩ (fun k x y => by kernel_rfl)

/-! ### loop.example/g00076/impl.within: function 31 -/
def impl_within.f (a0 : Int) (a1 : Int) (a2 : Int) : Option (Bool) := if a0 ≥ a1 then (some (decide (a0 ≤ a2))) else (some false)
def impl_within.c : FnD := { f := 31, sh := false, ps := [.c (.int .i64), .c (.int .i64), .c (.int .i64)], pb := [], vc := .c (.bool), bs := [], R := Bool, fn := fun _ x y => impl_within.f x.1 x.2.1 x.2.2.1, out := fun y => (y, ()), inn := fun d => d.1, inv := fun _ => rfl }
theorem impl_within.ok : impl_within.c.OK Tryz.prog :=
  FnD.of impl_within.c mix tok (fn := Tryz.f31) Tryz.func31 (by kernel_rfl) (fun _ _ => by kernel_rfl) (by kernel_rfl) (by kernel_rfl) [] trivial
    [] { c := fun _ => none, cc := [], ms := [], tn := [], sh := false, fm := [] } rfl 5000 trivial (fun k x y => by kernel_rfl)

/-! ### loop.example/g00076/impl.isMem: function 58 -/
def impl_isMem.f (a0 : Int) : Option (Bool) := (impl_within.f a0 64 2048).bind fun t1 => (if t1 = true then (some (decide ((Int.tmod a0 4) = 0))) else (some false))
def impl_isMem.c : FnD := { f := 58, sh := false, ps := [.c (.int .i64)], pb := [], vc := .c (.bool), bs := [], R := Bool, fn := fun _ x y => impl_isMem.f x.1, out := fun y => (y, ()), inn := fun d => d.1, inv := fun _ => rfl }
theorem impl_isMem.ok : impl_isMem.c.OK Tryz.prog :=
  FnD.of impl_isMem.c mix tok (fn := Tryz.f58) Tryz.func58 (by kernel_rfl) (fun _ _ => by kernel_rfl) (by kernel_rfl) (by kernel_rfl) [impl_within.c] ⟨impl_within.ok, trivial⟩
    [] { c := fun _ => none, cc := [], ms := [], tn := [], sh := false, fm := [] } rfl 5000 trivial (fun k x y => by kernel_rfl)

/-! ### loop.example/g00076/impl.isPower: function 95 -/
def impl_isPower.f (a0 : Int) : Option (Bool) := if a0 > 0 then (some (decide ((bitAnd .i64 a0 (wrap64 (a0 - 1))) = 0))) else (some false)
def impl_isPower.c : FnD := { f := 95, sh := false, ps := [.c (.int .i64)], pb := [], vc := .c (.bool), bs := [], R := Bool, fn := fun _ x y => impl_isPower.f x.1, out := fun y => (y, ()), inn := fun d => d.1, inv := fun _ => rfl }
theorem impl_isPower.ok : impl_isPower.c.OK Tryz.prog :=
  FnD.of impl_isPower.c mix tok (fn := Tryz.f95) Tryz.func95 (by kernel_rfl) (fun _ _ => by kernel_rfl) (by kernel_rfl) (by kernel_rfl) [] trivial
    [] { c := fun _ => none, cc := [], ms := [], tn := [], sh := false, fm := [] } rfl 5000 trivial (fun k x y => by kernel_rfl)

/-! ### loop.example/g00076/impl.isShape: function 59 -/
def impl_isShape.f (a0 : S33) : Option (Bool) := (impl_within.f a0.f0 1 16).bind fun t1 => (if t1 = true then ((impl_isPower.f a0.f0).bind fun t2 => (if t2 = true then ((impl_within.f a0.f1 1 4).bind fun t3 => (if t3 = true then ((impl_within.f a0.f2 4 32).bind fun t4 => (if t4 = true then ((impl_isPower.f a0.f2).bind fun t5 => (some t5)) else (some false))) else (some false))) else (some false))) else (some false))
def impl_isShape.c : FnD := { f := 59, sh := false, ps := [.agg T33], pb := [], vc := .c (.bool), bs := [], R := Bool, fn := fun _ x y => impl_isShape.f x.1, out := fun y => (y, ()), inn := fun d => d.1, inv := fun _ => rfl }
theorem impl_isShape.ok : impl_isShape.c.OK Tryz.prog :=
  FnD.of impl_isShape.c mix tok (fn := Tryz.f59) Tryz.func59 (by kernel_rfl) (fun _ _ => by kernel_rfl) (by kernel_rfl) (by kernel_rfl) [impl_within.c, impl_isPower.c] ⟨impl_within.ok, ⟨impl_isPower.ok, trivial⟩⟩
    [] { c := fun _ => none, cc := [], ms := [], tn := [], sh := false, fm := [] } rfl 5000 trivial (fun k x y => by kernel_rfl)

/-! ### loop.example/g00076/impl.areCosts: function 60 -/
def impl_areCosts.l4 : Nat → Int → Int → Int → Int → Int → Int → Int → S34 → Option (Bool)
  | 0, _, _, _, _, _, _, _, _ => none
  | k + 1, x17_0, x17_1, x17_2, x17_3, x17_4, x17_5, x18, y0 => if x18 < 6 then (if 0 ≤ x18 then (if x18 < ((6 : Nat) : Int) then ((impl_within.f (([x17_0, x17_1, x17_2, x17_3, x17_4, x17_5] : List Int).getD x18.toNat 0) 0 50).bind fun t1 => (if t1 = true then (impl_areCosts.l4 k x17_0 x17_1 x17_2 x17_3 x17_4 x17_5 (wrap64 (x18 + 1)) y0) else (some false))) else none) else none) else ((impl_within.f y0.f0 1 20).bind fun t2 => (some t2))
def impl_areCosts.f (k : Nat) (a0 : S34) : Option (Bool) := impl_areCosts.l4 k a0.f1 a0.f2 a0.f3 a0.f4 a0.f5 a0.f6 0 a0
def impl_areCosts.c : FnD := { f := 60, sh := false, ps := [.agg T34], pb := [], vc := .c (.bool), bs := [], R := Bool, fn := fun k x y => impl_areCosts.f k x.1, out := fun y => (y, ()), inn := fun d => d.1, inv := fun _ => rfl }
theorem impl_areCosts.ok : impl_areCosts.c.OK Tryz.prog :=
  FnD.of impl_areCosts.c mix tok (fn := Tryz.f60) Tryz.func60 (by kernel_rfl) (fun _ _ => by kernel_rfl) (by kernel_rfl) (by kernel_rfl) [impl_within.c] ⟨impl_within.ok, trivial⟩
    [{ lbl := 4, live := [(1, none), (17, none), (18, none)], ms := [], vs := [.c (.ptr 0 0), .agg [.int .i64, .int .i64, .int .i64, .int .i64, .int .i64, .int .i64], .c (.int .i64)], bs := [.cells 34 [.int .i64, .int .i64, .int .i64, .int .i64, .int .i64, .int .i64, .int .i64]], f := fun k x y => impl_areCosts.l4 k x.2.1.1 x.2.1.2.1 x.2.1.2.2.1 x.2.1.2.2.2.1 x.2.1.2.2.2.2.1 x.2.1.2.2.2.2.2.1 x.2.2.1 (y.1.1, y.1.2.1, y.1.2.2.1, y.1.2.2.2.1, y.1.2.2.2.2.1, y.1.2.2.2.2.2.1, y.1.2.2.2.2.2.2.1) }] { c := fun _ => none, cc := [], ms := [], tn := [], sh := false, fm := [] } rfl 5000 ⟨⟨fun _ _ => rfl, fun k x y => by kernel_rfl⟩, trivial⟩ (fun k x y => by kernel_rfl)

/-! ### loop.example/g00076/impl.isSpan: function 61 -/
def impl_isSpan.f (a0 : Int) : Option (Bool) := (impl_within.f a0 1 5000).bind fun t1 => (some t1)
def impl_isSpan.c : FnD := { f := 61, sh := false, ps := [.c (.int .i64)], pb := [], vc := .c (.bool), bs := [], R := Bool, fn := fun _ x y => impl_isSpan.f x.1, out := fun y => (y, ()), inn := fun d => d.1, inv := fun _ => rfl }
theorem impl_isSpan.ok : impl_isSpan.c.OK Tryz.prog :=
  FnD.of impl_isSpan.c mix tok (fn := Tryz.f61) Tryz.func61 (by kernel_rfl) (fun _ _ => by kernel_rfl) (by kernel_rfl) (by kernel_rfl) [impl_within.c] ⟨impl_within.ok, trivial⟩
    [] { c := fun _ => none, cc := [], ms := [], tn := [], sh := false, fm := [] } rfl 5000 trivial (fun k x y => by kernel_rfl)

/-! ### loop.example/g00076/impl.opCost: function 119 -/
def impl_opCost.f (a0 : S34) (a1 : Int) : Option (Int) := if a1 = 9 then (some (wrap64 (a0.f0 + a0.f1))) else (if a1 = 10 then (some (wrap64 (a0.f0 + a0.f1))) else ((impl_within.f a1 15 18).bind fun t1 => (if t1 = true then (some (wrap64 (a0.f0 + a0.f2))) else (if a1 ≥ 25 then (some (wrap64 (a0.f0 + a0.f5))) else (some a0.f0)))))
def impl_opCost.c : FnD := { f := 119, sh := false, ps := [.agg T34, .c (.int .i64)], pb := [], vc := .c (.int .i64), bs := [], R := Int, fn := fun _ x y => impl_opCost.f x.1 x.2.1, out := fun y => (y, ()), inn := fun d => d.1, inv := fun _ => rfl }
theorem impl_opCost.ok : impl_opCost.c.OK Tryz.prog :=
  FnD.of impl_opCost.c mix tok (fn := Tryz.f119) Tryz.func119 (by kernel_rfl) (fun _ _ => by kernel_rfl) (by kernel_rfl) (by kernel_rfl) [impl_within.c] ⟨impl_within.ok, trivial⟩
    [] { c := fun _ => none, cc := [], ms := [], tn := [], sh := false, fm := [] } rfl 5000 trivial (fun k x y => by kernel_rfl)

/-! ### loop.example/g00076/impl.accessCost: function 120 -/
def impl_accessCost.f (a0 : S34) (a1 : S140) : Option (Int) := if a1.f0 = true then (if a1.f1 = true then (if a1.f2 = true then (some (wrap64 (0 + a0.f6))) else (some 0)) else (if a1.f2 = true then (some (wrap64 ((wrap64 (0 + a0.f4)) + a0.f6))) else (some (wrap64 (0 + a0.f4))))) else (if a1.f1 = true then (if a1.f2 = true then (some (wrap64 ((wrap64 (0 + a0.f3)) + a0.f6))) else (some (wrap64 (0 + a0.f3)))) else (if a1.f2 = true then (some (wrap64 ((wrap64 ((wrap64 (0 + a0.f3)) + a0.f4)) + a0.f6))) else (some (wrap64 ((wrap64 (0 + a0.f3)) + a0.f4)))))
def impl_accessCost.c : FnD := { f := 120, sh := false, ps := [.agg T34, .agg T140], pb := [], vc := .c (.int .i64), bs := [], R := Int, fn := fun _ x y => impl_accessCost.f x.1 x.2.1, out := fun y => (y, ()), inn := fun d => d.1, inv := fun _ => rfl }
theorem impl_accessCost.ok : impl_accessCost.c.OK Tryz.prog :=
  FnD.of impl_accessCost.c mix tok (fn := Tryz.f120) Tryz.func120 (by kernel_rfl) (fun _ _ => by kernel_rfl) (by kernel_rfl) (by kernel_rfl) [] trivial
    [] { c := fun _ => none, cc := [], ms := [], tn := [], sh := false, fm := [] } rfl 5000 trivial (fun k x y => by kernel_rfl)

/-! ### loop.example/g00076/impl.WorstStep: function 96 -/
def impl_WorstStep.l10 : Nat → Int → Int → S34 → Option (Int)
  | 0, _, _, _ => none
  | k + 1, x3, x8, y0 => if x8 < 33 then ((impl_opCost.f y0 x8).bind fun t2 => (impl_WorstStep.l10 k (mx x3 t2) (wrap64 (x8 + 1)) y0)) else ((impl_accessCost.f y0 (⟨false, false, true⟩ : S140)).bind fun t3 => (some (wrap64 ((wrap64 (x3 + (wrap64 (2 * t3)))) + y0.f5))))
def impl_WorstStep.f (k : Nat) (a0 : S34) : Option (Int) := (impl_areCosts.f k a0).bind fun t1 => (if t1 = true then (impl_WorstStep.l10 k 0 0 a0) else (some (-1)))
def impl_WorstStep.c : FnD := { f := 96, sh := false, ps := [.agg T34], pb := [], vc := .c (.int .i64), bs := [], R := Int, fn := fun k x y => impl_WorstStep.f k x.1, out := fun y => (y, ()), inn := fun d => d.1, inv := fun _ => rfl }
theorem impl_WorstStep.ok : impl_WorstStep.c.OK Tryz.prog :=
  FnD.of impl_WorstStep.c mix tok (fn := Tryz.f96) Tryz.func96 (by kernel_rfl) (fun _ _ => by kernel_rfl) (by kernel_rfl) (by kernel_rfl) [impl_areCosts.c, impl_opCost.c, impl_accessCost.c] ⟨impl_areCosts.ok, ⟨impl_opCost.ok, ⟨impl_accessCost.ok, trivial⟩⟩⟩
    [{ lbl := 10, live := [(1, none), (3, none), (8, none)], ms := [], vs := [.c (.ptr 0 0), .c (.int .i64), .c (.int .i64)], bs := [.cells 34 [.int .i64, .int .i64, .int .i64, .int .i64, .int .i64, .int .i64, .int .i64]], f := fun k x y => impl_WorstStep.l10 k x.2.1 x.2.2.1 (y.1.1, y.1.2.1, y.1.2.2.1, y.1.2.2.2.1, y.1.2.2.2.2.1, y.1.2.2.2.2.2.1, y.1.2.2.2.2.2.2.1) }] { c := fun _ => none, cc := [], ms := [], tn := [], sh := false, fm := [] } rfl 5000 ⟨⟨fun _ _ => rfl, fun k x y => by kernel_rfl⟩, trivial⟩ (fun k x y => by kernel_rfl)

/-! ### loop.example/g00076/impl.worstStep: function 62 -/
def impl_worstStep.f (k : Nat) (a0 : S34) : Option (Int) := (impl_WorstStep.f k a0).bind fun t1 => (some t1)
def impl_worstStep.c : FnD := { f := 62, sh := false, ps := [.agg T34], pb := [], vc := .c (.int .i64), bs := [], R := Int, fn := fun k x y => impl_worstStep.f k x.1, out := fun y => (y, ()), inn := fun d => d.1, inv := fun _ => rfl }
theorem impl_worstStep.ok : impl_worstStep.c.OK Tryz.prog :=
  FnD.of impl_worstStep.c mix tok (fn := Tryz.f62) Tryz.func62 (by kernel_rfl) (fun _ _ => by kernel_rfl) (by kernel_rfl) (by kernel_rfl) [impl_WorstStep.c] ⟨impl_WorstStep.ok, trivial⟩
    [] { c := fun _ => none, cc := [], ms := [], tn := [], sh := false, fm := [] } rfl 5000 trivial (fun k x y => by kernel_rfl)

/-! ### loop.example/g00076/impl.isLabel: function 121 -/
def impl_isLabel.l4 : Nat → ByteArray → Int → Int → Option (Bool)
  | 0, _, _, _ => none
  | k + 1, x0, x5, x6 => if x6 < x5 then (if 0 ≤ x6 then (if x6 < (x0.size : Int) then (if (bt x0 x6) < 97 then (some false) else (if 0 ≤ x6 then (if x6 < (x0.size : Int) then (if (bt x0 x6) > 122 then (some false) else (impl_isLabel.l4 k x0 x5 (wrap64 (x6 + 1)))) else none) else none)) else none) else none) else ((impl_within.f (x0.size : Int) 1 12).bind fun t1 => (some t1))
def impl_isLabel.f (k : Nat) (a0 : ByteArray) : Option (Bool) := impl_isLabel.l4 k a0 (a0.size : Int) 0
def impl_isLabel.c : FnD := { f := 121, sh := false, ps := [.c .str], pb := [], vc := .c (.bool), bs := [], R := Bool, fn := fun k x y => impl_isLabel.f k x.1, out := fun y => (y, ()), inn := fun d => d.1, inv := fun _ => rfl }
theorem impl_isLabel.ok : impl_isLabel.c.OK Tryz.prog :=
  FnD.of impl_isLabel.c mix tok (fn := Tryz.f121) Tryz.func121 (by kernel_rfl) (fun _ _ => by kernel_rfl) (by kernel_rfl) (by kernel_rfl) [impl_within.c] ⟨impl_within.ok, trivial⟩
    [{ lbl := 4, live := [(0, none), (5, none), (6, none)], ms := [], vs := [.c (.str), .c (.int .i64), .c (.int .i64)], bs := [], f := fun k x y => impl_isLabel.l4 k x.1 x.2.1 x.2.2.1 }] { c := fun _ => none, cc := [], ms := [], tn := [], sh := false, fm := [] } rfl 5000 ⟨⟨fun _ _ => rfl, fun k x y => by kernel_rfl⟩, trivial⟩ (fun k x y => by kernel_rfl)

/-! ### loop.example/g00076/impl.isName: function 97 -/
def impl_isName.f (k : Nat) (a0 : ByteArray) : Option (Bool) := (impl_isLabel.f k a0).bind fun t1 => (if t1 = true then (some (decide ((a0.size : Int) ≤ 8))) else (some false))
def impl_isName.c : FnD := { f := 97, sh := false, ps := [.c .str], pb := [], vc := .c (.bool), bs := [], R := Bool, fn := fun k x y => impl_isName.f k x.1, out := fun y => (y, ()), inn := fun d => d.1, inv := fun _ => rfl }
theorem impl_isName.ok : impl_isName.c.OK Tryz.prog :=
  FnD.of impl_isName.c mix tok (fn := Tryz.f97) Tryz.func97 (by kernel_rfl) (fun _ _ => by kernel_rfl) (by kernel_rfl) (by kernel_rfl) [impl_isLabel.c] ⟨impl_isLabel.ok, trivial⟩
    [] { c := fun _ => none, cc := [], ms := [], tn := [], sh := false, fm := [] } rfl 5000 trivial (fun k x y => by kernel_rfl)

/-! ### loop.example/g00076/impl.partNamed$1: function 123 -/
def impl_partNamed_1.f (a0 : S85) (c1 : ByteArray) : Option (Bool) := some (decide (a0.f0 = c1))
def impl_partNamed_1.c : FnD := { f := 123, sh := false, ps := [.agg T85, .cap .str], pb := [], vc := .c (.bool), bs := [], R := Bool, fn := fun _ x y => impl_partNamed_1.f x.1 x.2.1, out := fun y => (y, ()), inn := fun d => d.1, inv := fun _ => rfl }
theorem impl_partNamed_1.ok : impl_partNamed_1.c.OK Tryz.prog :=
  FnD.of impl_partNamed_1.c mix tok (fn := Tryz.f123) Tryz.func123 (by kernel_rfl) (fun _ _ => by kernel_rfl) (by kernel_rfl) (by kernel_rfl) [] trivial
    [] { c := fun _ => none, cc := [], ms := [], tn := [], sh := false, fm := [] } rfl 5000 trivial (fun k x y => by kernel_rfl)

/-! ### slices.IndexFunc[[]loop.example/g00076/impl.PartRow,loop.example/g00076/impl.PartRow]: function 122 -/
def slices_IndexFunc_122_123.l4 : Nat → (List S85) → ByteArray → Int → Int → Option (Int)
  | 0, _, _, _, _ => none
  | k + 1, x0, x1_0, x7, x8 => if x8 < x7 then (if 0 ≤ x8 then (if x8 < (x0.length : Int) then ((impl_partNamed_1.f (rd_T85 x0 x8) x1_0).bind fun t1 => (if t1 = true then (some x8) else (slices_IndexFunc_122_123.l4 k x0 x1_0 x7 (wrap64 (x8 + 1))))) else none) else none) else (some (-1))
def slices_IndexFunc_122_123.f (k : Nat) (a0 : List S85) (p1_0 : ByteArray) : Option (Int) := slices_IndexFunc_122_123.l4 k a0 p1_0 (a0.length : Int) 0
def slices_IndexFunc_122_123.c : FnD := { f := 122, sh := false, ps := [.c (.sl T85), .fn 123 [.str]], pb := [], vc := .c (.int .i64), bs := [], R := Int, fn := fun k x y => slices_IndexFunc_122_123.f k x.1 x.2.1.1, out := fun y => (y, ()), inn := fun d => d.1, inv := fun _ => rfl }
theorem slices_IndexFunc_122_123.ok : slices_IndexFunc_122_123.c.OK Tryz.prog :=
  FnD.of slices_IndexFunc_122_123.c mix tok (fn := Tryz.f122) Tryz.func122 (by kernel_rfl) (fun _ _ => by kernel_rfl) (by kernel_rfl) (by kernel_rfl) [impl_partNamed_1.c] ⟨impl_partNamed_1.ok, trivial⟩
    [{ lbl := 4, live := [(0, none), (1, none), (7, none), (8, none)], ms := [], vs := [.c (.sl false T85), .c (.fn 123 [.str]), .c (.int .i64), .c (.int .i64)], bs := [], f := fun k x y => slices_IndexFunc_122_123.l4 k x.1 x.2.1.1 x.2.2.1 x.2.2.2.1 }] { c := fun _ => none, cc := [], ms := [], tn := [], sh := false, fm := [] } rfl 5000 ⟨⟨fun _ _ => rfl, fun k x y => by kernel_rfl⟩, trivial⟩ (fun k x y => by kernel_rfl)

/-! ### loop.example/g00076/impl.partNamed: function 98 -/
def impl_partNamed.f (k : Nat) (a0 : S39) (a1 : ByteArray) : Option (Int) := (slices_IndexFunc_122_123.f k a0.f7 a1).bind fun t1 => (some t1)
def impl_partNamed.c : FnD := { f := 98, sh := false, ps := [.agg T39, .c .str], pb := [], vc := .c (.int .i64), bs := [], R := Int, fn := fun k x y => impl_partNamed.f k x.1 x.2.1, out := fun y => (y, ()), inn := fun d => d.1, inv := fun _ => rfl }
theorem impl_partNamed.ok : impl_partNamed.c.OK Tryz.prog :=
  FnD.of impl_partNamed.c mix tok (fn := Tryz.f98) Tryz.func98 (by kernel_rfl) (fun _ _ => by kernel_rfl) (by kernel_rfl) (by kernel_rfl) [slices_IndexFunc_122_123.c] ⟨slices_IndexFunc_122_123.ok, trivial⟩
    [] { c := fun _ => none, cc := [], ms := [], tn := [], sh := false, fm := [] } rfl 5000 trivial (fun k x y => by kernel_rfl)

/-! ### loop.example/g00076/impl.isPolicy: function 99 -/
def impl_isPolicy.f (a0 : S82) : Option (Bool) := if a0.f0 = 1 then ((impl_within.f a0.f1 0 100).bind fun t1 => (some t1)) else (if a0.f0 = 0 then (some (decide (a0.f1 = 0))) else (if a0.f0 = 2 then (some (decide (a0.f1 = 0))) else (some false)))
def impl_isPolicy.c : FnD := { f := 99, sh := false, ps := [.agg T82], pb := [], vc := .c (.bool), bs := [], R := Bool, fn := fun _ x y => impl_isPolicy.f x.1, out := fun y => (y, ()), inn := fun d => d.1, inv := fun _ => rfl }
theorem impl_isPolicy.ok : impl_isPolicy.c.OK Tryz.prog :=
  FnD.of impl_isPolicy.c mix tok (fn := Tryz.f99) Tryz.func99 (by kernel_rfl) (fun _ _ => by kernel_rfl) (by kernel_rfl) (by kernel_rfl) [impl_within.c] ⟨impl_within.ok, trivial⟩
    [] { c := fun _ => none, cc := [], ms := [], tn := [], sh := false, fm := [] } rfl 5000 trivial (fun k x y => by kernel_rfl)

/-! ### loop.example/g00076/impl.isWindow: function 100 -/
def impl_isWindow.f (a0 : S104) : Option (Bool) := (impl_within.f a0.f1 4 2048).bind fun t1 => (if t1 = true then (if (Int.tmod a0.f1 4) = 0 then ((impl_within.f a0.f0 0 (wrap64 (2048 - a0.f1))).bind fun t2 => (if t2 = true then (if (Int.tmod a0.f0 4) = 0 then ((impl_within.f a0.f2 1 7).bind fun t3 => (some t3)) else (some false)) else (some false))) else (some false)) else (some false))
def impl_isWindow.c : FnD := { f := 100, sh := false, ps := [.agg T104], pb := [], vc := .c (.bool), bs := [], R := Bool, fn := fun _ x y => impl_isWindow.f x.1, out := fun y => (y, ()), inn := fun d => d.1, inv := fun _ => rfl }
theorem impl_isWindow.ok : impl_isWindow.c.OK Tryz.prog :=
  FnD.of impl_isWindow.c mix tok (fn := Tryz.f100) Tryz.func100 (by kernel_rfl) (fun _ _ => by kernel_rfl) (by kernel_rfl) (by kernel_rfl) [impl_within.c] ⟨impl_within.ok, trivial⟩
    [] { c := fun _ => none, cc := [], ms := [], tn := [], sh := false, fm := [] } rfl 5000 trivial (fun k x y => by kernel_rfl)

/-! ### loop.example/g00076/impl.areApart: function 103 -/
def impl_areApart.f (a0 : S104) (a1 : S104) : Option (Bool) := if (wrap64 (a0.f0 + a0.f1)) ≤ a1.f0 then (some true) else (some (decide ((wrap64 (a1.f0 + a1.f1)) ≤ a0.f0)))
def impl_areApart.c : FnD := { f := 103, sh := false, ps := [.agg T104, .agg T104], pb := [], vc := .c (.bool), bs := [], R := Bool, fn := fun _ x y => impl_areApart.f x.1 x.2.1, out := fun y => (y, ()), inn := fun d => d.1, inv := fun _ => rfl }
theorem impl_areApart.ok : impl_areApart.c.OK Tryz.prog :=
  FnD.of impl_areApart.c mix tok (fn := Tryz.f103) Tryz.func103 (by kernel_rfl) (fun _ _ => by kernel_rfl) (by kernel_rfl) (by kernel_rfl) [] trivial
    [] { c := fun _ => none, cc := [], ms := [], tn := [], sh := false, fm := [] } rfl 5000 trivial (fun k x y => by kernel_rfl)

/-! ### loop.example/g00076/impl.areParts$1: function 102 -/
def impl_areParts_1.f (a0 : S104) (c1 : S104) : Option (Bool) := (impl_areApart.f a0 c1).bind fun t1 => (some (!t1))
def impl_areParts_1.c : FnD := { f := 102, sh := false, ps := [.agg T104, .cap T104], pb := [], vc := .c (.bool), bs := [], R := Bool, fn := fun _ x y => impl_areParts_1.f x.1 x.2.1, out := fun y => (y, ()), inn := fun d => d.1, inv := fun _ => rfl }
theorem impl_areParts_1.ok : impl_areParts_1.c.OK Tryz.prog :=
  FnD.of impl_areParts_1.c mix tok (fn := Tryz.f102) Tryz.func102 (by kernel_rfl) (fun _ _ => by kernel_rfl) (by kernel_rfl) (by kernel_rfl) [impl_areApart.c] ⟨impl_areApart.ok, trivial⟩
    [] { c := fun _ => none, cc := [], ms := [], tn := [], sh := false, fm := [] } rfl 5000 trivial (fun k x y => by kernel_rfl)

/-! ### slices.IndexFunc[[]loop.example/g00076/impl.Window,loop.example/g00076/impl.Window]: function 124 -/
def slices_IndexFunc_124_102.l4 : Nat → (List S104) → S104 → Int → Int → Option (Int)
  | 0, _, _, _, _ => none
  | k + 1, x0, x1_0, x7, x8 => if x8 < x7 then (if 0 ≤ x8 then (if x8 < (x0.length : Int) then ((impl_areParts_1.f (rd_T104 x0 x8) x1_0).bind fun t1 => (if t1 = true then (some x8) else (slices_IndexFunc_124_102.l4 k x0 x1_0 x7 (wrap64 (x8 + 1))))) else none) else none) else (some (-1))
def slices_IndexFunc_124_102.f (k : Nat) (a0 : List S104) (p1_0 : S104) : Option (Int) := slices_IndexFunc_124_102.l4 k a0 p1_0 (a0.length : Int) 0
def slices_IndexFunc_124_102.c : FnD := { f := 124, sh := false, ps := [.c (.sl T104), .fn 102 [T104]], pb := [], vc := .c (.int .i64), bs := [], R := Int, fn := fun k x y => slices_IndexFunc_124_102.f k x.1 x.2.1.1, out := fun y => (y, ()), inn := fun d => d.1, inv := fun _ => rfl }
theorem slices_IndexFunc_124_102.ok : slices_IndexFunc_124_102.c.OK Tryz.prog :=
  FnD.of slices_IndexFunc_124_102.c mix tok (fn := Tryz.f124) Tryz.func124 (by kernel_rfl) (fun _ _ => by kernel_rfl) (by kernel_rfl) (by kernel_rfl) [impl_areParts_1.c] ⟨impl_areParts_1.ok, trivial⟩
    [{ lbl := 4, live := [(0, none), (1, none), (7, none), (8, none)], ms := [], vs := [.c (.sl false T104), .c (.fn 102 [T104]), .c (.int .i64), .c (.int .i64)], bs := [], f := fun k x y => slices_IndexFunc_124_102.l4 k x.1 x.2.1.1 x.2.2.1 x.2.2.2.1 }] { c := fun _ => none, cc := [], ms := [], tn := [], sh := false, fm := [] } rfl 5000 ⟨⟨fun _ _ => rfl, fun k x y => by kernel_rfl⟩, trivial⟩ (fun k x y => by kernel_rfl)

/-! ### slices.ContainsFunc[[]loop.example/g00076/impl.Window,loop.example/g00076/impl.Window]: function 101 -/
def slices_ContainsFunc_101_102.f (k : Nat) (a0 : List S104) (p1_0 : S104) : Option (Bool) := (slices_IndexFunc_124_102.f k a0 p1_0).bind fun t1 => (some (decide (t1 ≥ 0)))
def slices_ContainsFunc_101_102.c : FnD := { f := 101, sh := false, ps := [.c (.sl T104), .fn 102 [T104]], pb := [], vc := .c (.bool), bs := [], R := Bool, fn := fun k x y => slices_ContainsFunc_101_102.f k x.1 x.2.1.1, out := fun y => (y, ()), inn := fun d => d.1, inv := fun _ => rfl }
theorem slices_ContainsFunc_101_102.ok : slices_ContainsFunc_101_102.c.OK Tryz.prog :=
  FnD.of slices_ContainsFunc_101_102.c mix tok (fn := Tryz.f101) Tryz.func101 (by kernel_rfl) (fun _ _ => by kernel_rfl) (by kernel_rfl) (by kernel_rfl) [slices_IndexFunc_124_102.c] ⟨slices_IndexFunc_124_102.ok, trivial⟩
    [] { c := fun _ => none, cc := [], ms := [], tn := [], sh := false, fm := [] } rfl 5000 trivial (fun k x y => by kernel_rfl)

/-! ### loop.example/g00076/impl.windowAt$1: function 131 -/
def impl_windowAt_1.f (a0 : S104) (c1 : Int) : Option (Bool) := if a0.f0 ≤ c1 then (some (decide (c1 < (wrap64 (a0.f0 + a0.f1))))) else (some false)
def impl_windowAt_1.c : FnD := { f := 131, sh := false, ps := [.agg T104, .cap (.int .i64)], pb := [], vc := .c (.bool), bs := [], R := Bool, fn := fun _ x y => impl_windowAt_1.f x.1 x.2.1, out := fun y => (y, ()), inn := fun d => d.1, inv := fun _ => rfl }
theorem impl_windowAt_1.ok : impl_windowAt_1.c.OK Tryz.prog :=
  FnD.of impl_windowAt_1.c mix tok (fn := Tryz.f131) Tryz.func131 (by kernel_rfl) (fun _ _ => by kernel_rfl) (by kernel_rfl) (by kernel_rfl) [] trivial
    [] { c := fun _ => none, cc := [], ms := [], tn := [], sh := false, fm := [] } rfl 5000 trivial (fun k x y => by kernel_rfl)

/-! ### slices.IndexFunc[[]loop.example/g00076/impl.Window,loop.example/g00076/impl.Window]: function 124 -/
def slices_IndexFunc_124_131.l4 : Nat → (List S104) → Int → Int → Int → Option (Int)
  | 0, _, _, _, _ => none
  | k + 1, x0, x1_0, x7, x8 => if x8 < x7 then (if 0 ≤ x8 then (if x8 < (x0.length : Int) then ((impl_windowAt_1.f (rd_T104 x0 x8) x1_0).bind fun t1 => (if t1 = true then (some x8) else (slices_IndexFunc_124_131.l4 k x0 x1_0 x7 (wrap64 (x8 + 1))))) else none) else none) else (some (-1))
def slices_IndexFunc_124_131.f (k : Nat) (a0 : List S104) (p1_0 : Int) : Option (Int) := slices_IndexFunc_124_131.l4 k a0 p1_0 (a0.length : Int) 0
def slices_IndexFunc_124_131.c : FnD := { f := 124, sh := false, ps := [.c (.sl T104), .fn 131 [(.int .i64)]], pb := [], vc := .c (.int .i64), bs := [], R := Int, fn := fun k x y => slices_IndexFunc_124_131.f k x.1 x.2.1.1, out := fun y => (y, ()), inn := fun d => d.1, inv := fun _ => rfl }
theorem slices_IndexFunc_124_131.ok : slices_IndexFunc_124_131.c.OK Tryz.prog :=
  FnD.of slices_IndexFunc_124_131.c mix tok (fn := Tryz.f124) Tryz.func124 (by kernel_rfl) (fun _ _ => by kernel_rfl) (by kernel_rfl) (by kernel_rfl) [impl_windowAt_1.c] ⟨impl_windowAt_1.ok, trivial⟩
    [{ lbl := 4, live := [(0, none), (1, none), (7, none), (8, none)], ms := [], vs := [.c (.sl false T104), .c (.fn 131 [(.int .i64)]), .c (.int .i64), .c (.int .i64)], bs := [], f := fun k x y => slices_IndexFunc_124_131.l4 k x.1 x.2.1.1 x.2.2.1 x.2.2.2.1 }] { c := fun _ => none, cc := [], ms := [], tn := [], sh := false, fm := [] } rfl 5000 ⟨⟨fun _ _ => rfl, fun k x y => by kernel_rfl⟩, trivial⟩ (fun k x y => by kernel_rfl)

/-! ### loop.example/g00076/impl.windowAt: function 125 -/
def impl_windowAt.f (k : Nat) (a0 : List S104) (a1 : Int) : Option (Int) := (slices_IndexFunc_124_131.f k a0 a1).bind fun t1 => (some t1)
def impl_windowAt.c : FnD := { f := 125, sh := false, ps := [.c (.sl T104), .c (.int .i64)], pb := [], vc := .c (.int .i64), bs := [], R := Int, fn := fun k x y => impl_windowAt.f k x.1 x.2.1, out := fun y => (y, ()), inn := fun d => d.1, inv := fun _ => rfl }
theorem impl_windowAt.ok : impl_windowAt.c.OK Tryz.prog :=
  FnD.of impl_windowAt.c mix tok (fn := Tryz.f125) Tryz.func125 (by kernel_rfl) (fun _ _ => by kernel_rfl) (by kernel_rfl) (by kernel_rfl) [slices_IndexFunc_124_131.c] ⟨slices_IndexFunc_124_131.ok, trivial⟩
    [] { c := fun _ => none, cc := [], ms := [], tn := [], sh := false, fm := [] } rfl 5000 trivial (fun k x y => by kernel_rfl)

/-! ### loop.example/g00076/impl.runsAt: function 104 -/
def impl_runsAt.f (k : Nat) (a0 : S85) (a1 : Int) : Option (Bool) := (impl_windowAt.f k a0.f3 a1).bind fun t1 => (if t1 ≥ 0 then (if 0 ≤ t1 then (if t1 < (a0.f3.length : Int) then (some (!(decide ((bitAnd .i64 ((rd_T104 a0.f3 t1).f2) 4) = 0)))) else none) else none) else (some false))
def impl_runsAt.c : FnD := { f := 104, sh := false, ps := [.agg T85, .c (.int .i64)], pb := [], vc := .c (.bool), bs := [], R := Bool, fn := fun k x y => impl_runsAt.f k x.1 x.2.1, out := fun y => (y, ()), inn := fun d => d.1, inv := fun _ => rfl }
theorem impl_runsAt.ok : impl_runsAt.c.OK Tryz.prog :=
  FnD.of impl_runsAt.c mix tok (fn := Tryz.f104) Tryz.func104 (by kernel_rfl) (fun _ _ => by kernel_rfl) (by kernel_rfl) (by kernel_rfl) [impl_windowAt.c] ⟨impl_windowAt.ok, trivial⟩
    [] { c := fun _ => none, cc := [], ms := [], tn := [], sh := false, fm := [] } rfl 5000 trivial (fun k x y => by kernel_rfl)

/-! ### loop.example/g00076/impl.areParts: function 63 -/
mutual
def impl_areParts.l6 : Nat → (List S85) → Int → Int → S39 → (List S104) → Option (Bool)
  | 0, _, _, _, _, _ => none
  | k + 1, x9, x10, x11, y0, h1 => if x11 < x10 then (if 0 ≤ x11 then (if x11 < (x9.length : Int) then ((impl_isName.f k ((rd_T85 x9 x11).f0)).bind fun t1 => (if t1 = true then ((impl_partNamed.f k y0 ((rd_T85 x9 x11).f0)).bind fun t2 => (if t2 < x11 then (some false) else ((impl_isPolicy.f ((rd_T85 x9 x11).f2)).bind fun t3 => (if t3 = true then ((impl_within.f (((rd_T85 x9 x11).f3).length : Int) 1 4).bind fun t4 => (if t4 = true then (impl_areParts.l16 k x9 x10 x11 ((rd_T85 x9 x11).f3) (((rd_T85 x9 x11).f3).length : Int) 0 y0 h1 (rd_T85 x9 x11)) else (some false))) else (some false))))) else (some false))) else none) else none) else (some true)
def impl_areParts.l16 : Nat → (List S85) → Int → Int → (List S104) → Int → Int → S39 → (List S104) → S85 → Option (Bool)
  | 0, _, _, _, _, _, _, _, _, _ => none
  | k + 1, x9, x10, x11, x42, x43, x44, y0, h1, y2 => if x44 < x43 then (if 0 ≤ x44 then (if x44 < (x42.length : Int) then ((impl_isWindow.f (rd_T104 x42 x44)).bind fun t5 => (if t5 = true then (if (wrap64 (((rd_T104 x42 x44).f0) + ((rd_T104 x42 x44).f1))) > y0.f0 then (some false) else ((slices_ContainsFunc_101_102.f k h1 (rd_T104 x42 x44)).bind fun t6 => (if t6 = true then (some false) else (if h1.length + ([(rd_T104 x42 x44)] : List S104).length < 5864062014805 then (impl_areParts.l16 k x9 x10 x11 x42 x43 (wrap64 (x44 + 1)) y0 (h1 ++ ([(rd_T104 x42 x44)] : List S104)) y2) else none)))) else (some false))) else none) else none) else (if (Int.tmod y2.f1 4) = 0 then ((impl_runsAt.f k y2 y2.f1).bind fun t7 => (if t7 = true then (impl_areParts.l6 k x9 x10 (wrap64 (x11 + 1)) y0 h1) else (some false))) else (some false))
end
def impl_areParts.f (k : Nat) (a0 : S39) : Option (Bool) := impl_areParts.l6 k a0.f7 (a0.f7.length : Int) 0 a0 ([] : List S104)
def impl_areParts.c : FnD := { f := 63, sh := false, ps := [.agg T39], pb := [], vc := .c (.bool), bs := [], R := Bool, fn := fun k x y => impl_areParts.f k x.1, out := fun y => (y, ()), inn := fun d => d.1, inv := fun _ => rfl }
theorem impl_areParts.ok : impl_areParts.c.OK Tryz.prog :=
  FnD.of impl_areParts.c mix tok (fn := Tryz.f63) Tryz.func63 (by kernel_rfl) (fun _ _ => by kernel_rfl) (by kernel_rfl) (by kernel_rfl) [impl_isName.c, impl_partNamed.c, impl_isPolicy.c, impl_within.c, impl_isWindow.c, slices_ContainsFunc_101_102.c, impl_runsAt.c] ⟨impl_isName.ok, ⟨impl_partNamed.ok, ⟨impl_isPolicy.ok, ⟨impl_within.ok, ⟨impl_isWindow.ok, ⟨slices_ContainsFunc_101_102.ok, ⟨impl_runsAt.ok, trivial⟩⟩⟩⟩⟩⟩⟩
    [{ lbl := 6, live := [(1, none), (3, some (.row T104)), (9, none), (10, none), (11, none)], ms := [], vs := [.c (.ptr 0 0), .c (.own 1), .c (.sl false T85), .c (.int .i64), .c (.int .i64)], bs := [.cells 39 [.int .i64, .int .i64, .int .i64, .int .i64, .int .i64, .int .i64, .int .i64, .int .i64, .int .i64, .int .i64, .int .i64, .int .i64, .int .i64, .int .i64, .int .i64, .sl false T85, .sl false (.int .i64), .sl false T88, .sl false T55], .arr T104 .un], f := fun k x y => impl_areParts.l6 k x.2.2.1 x.2.2.2.1 x.2.2.2.2.1 (y.1.1, (y.1.2.1, y.1.2.2.1, y.1.2.2.2.1), y.1.2.2.2.2.1, (y.1.2.2.2.2.2.1, y.1.2.2.2.2.2.2.1, y.1.2.2.2.2.2.2.2.1, y.1.2.2.2.2.2.2.2.2.1, y.1.2.2.2.2.2.2.2.2.2.1, y.1.2.2.2.2.2.2.2.2.2.2.1, y.1.2.2.2.2.2.2.2.2.2.2.2.1), y.1.2.2.2.2.2.2.2.2.2.2.2.2.1, y.1.2.2.2.2.2.2.2.2.2.2.2.2.2.1, y.1.2.2.2.2.2.2.2.2.2.2.2.2.2.2.1, y.1.2.2.2.2.2.2.2.2.2.2.2.2.2.2.2.1, y.1.2.2.2.2.2.2.2.2.2.2.2.2.2.2.2.2.1, y.1.2.2.2.2.2.2.2.2.2.2.2.2.2.2.2.2.2.1, y.1.2.2.2.2.2.2.2.2.2.2.2.2.2.2.2.2.2.2.1) y.2.1 },
      { lbl := 16, live := [(1, none), (3, some (.row T104)), (5, none), (9, none), (10, none), (11, none), (42, none), (43, none), (44, none)], ms := [], vs := [.c (.ptr 0 0), .c (.own 1), .c (.ptr 2 0), .c (.sl false T85), .c (.int .i64), .c (.int .i64), .c (.sl false T104), .c (.int .i64), .c (.int .i64)], bs := [.cells 39 [.int .i64, .int .i64, .int .i64, .int .i64, .int .i64, .int .i64, .int .i64, .int .i64, .int .i64, .int .i64, .int .i64, .int .i64, .int .i64, .int .i64, .int .i64, .sl false T85, .sl false (.int .i64), .sl false T88, .sl false T55], .arr T104 .un, .cells 85 [.str, .int .i64, .int .i64, .int .i64, .sl false T104]], f := fun k x y => impl_areParts.l16 k x.2.2.2.1 x.2.2.2.2.1 x.2.2.2.2.2.1 x.2.2.2.2.2.2.1 x.2.2.2.2.2.2.2.1 x.2.2.2.2.2.2.2.2.1 (y.1.1, (y.1.2.1, y.1.2.2.1, y.1.2.2.2.1), y.1.2.2.2.2.1, (y.1.2.2.2.2.2.1, y.1.2.2.2.2.2.2.1, y.1.2.2.2.2.2.2.2.1, y.1.2.2.2.2.2.2.2.2.1, y.1.2.2.2.2.2.2.2.2.2.1, y.1.2.2.2.2.2.2.2.2.2.2.1, y.1.2.2.2.2.2.2.2.2.2.2.2.1), y.1.2.2.2.2.2.2.2.2.2.2.2.2.1, y.1.2.2.2.2.2.2.2.2.2.2.2.2.2.1, y.1.2.2.2.2.2.2.2.2.2.2.2.2.2.2.1, y.1.2.2.2.2.2.2.2.2.2.2.2.2.2.2.2.1, y.1.2.2.2.2.2.2.2.2.2.2.2.2.2.2.2.2.1, y.1.2.2.2.2.2.2.2.2.2.2.2.2.2.2.2.2.2.1, y.1.2.2.2.2.2.2.2.2.2.2.2.2.2.2.2.2.2.2.1) y.2.1 (y.2.2.1.1, y.2.2.1.2.1, (y.2.2.1.2.2.1, y.2.2.1.2.2.2.1), y.2.2.1.2.2.2.2.1) }] { c := fun _ => none, cc := [], ms := [], tn := [], sh := false, fm := [] } rfl 5000 ⟨⟨fun _ _ => rfl, fun k x y => by kernel_rfl⟩, ⟨⟨fun _ _ => rfl, fun k x y => by kernel_rfl⟩, trivial⟩⟩ (fun k x y => by kernel_rfl)

/-! ### loop.example/g00076/impl.isSound$1: function 65 -/
def impl_isSound_1.f (a0 : Int) (c1 : Int) : Option (Bool) := (impl_within.f a0 0 (wrap64 (c1 - 1))).bind fun t1 => (some (!t1))
def impl_isSound_1.c : FnD := { f := 65, sh := false, ps := [.c (.int .i64), .cap (.int .i64)], pb := [], vc := .c (.bool), bs := [], R := Bool, fn := fun _ x y => impl_isSound_1.f x.1 x.2.1, out := fun y => (y, ()), inn := fun d => d.1, inv := fun _ => rfl }
theorem impl_isSound_1.ok : impl_isSound_1.c.OK Tryz.prog :=
  FnD.of impl_isSound_1.c mix tok (fn := Tryz.f65) Tryz.func65 (by kernel_rfl) (fun _ _ => by kernel_rfl) (by kernel_rfl) (by kernel_rfl) [impl_within.c] ⟨impl_within.ok, trivial⟩
    [] { c := fun _ => none, cc := [], ms := [], tn := [], sh := false, fm := [] } rfl 5000 trivial (fun k x y => by kernel_rfl)

/-! ### slices.IndexFunc[[]int,int]: function 105 -/
def slices_IndexFunc_105_65.l4 : Nat → (List Int) → Int → Int → Int → Option (Int)
  | 0, _, _, _, _ => none
  | k + 1, x0, x1_0, x7, x8 => if x8 < x7 then (if 0 ≤ x8 then (if x8 < (x0.length : Int) then ((impl_isSound_1.f (rd x0 x8) x1_0).bind fun t1 => (if t1 = true then (some x8) else (slices_IndexFunc_105_65.l4 k x0 x1_0 x7 (wrap64 (x8 + 1))))) else none) else none) else (some (-1))
def slices_IndexFunc_105_65.f (k : Nat) (a0 : List Int) (p1_0 : Int) : Option (Int) := slices_IndexFunc_105_65.l4 k a0 p1_0 (a0.length : Int) 0
def slices_IndexFunc_105_65.c : FnD := { f := 105, sh := false, ps := [.c (.sl (.int .i64)), .fn 65 [(.int .i64)]], pb := [], vc := .c (.int .i64), bs := [], R := Int, fn := fun k x y => slices_IndexFunc_105_65.f k x.1 x.2.1.1, out := fun y => (y, ()), inn := fun d => d.1, inv := fun _ => rfl }
theorem slices_IndexFunc_105_65.ok : slices_IndexFunc_105_65.c.OK Tryz.prog :=
  FnD.of slices_IndexFunc_105_65.c mix tok (fn := Tryz.f105) Tryz.func105 (by kernel_rfl) (fun _ _ => by kernel_rfl) (by kernel_rfl) (by kernel_rfl) [impl_isSound_1.c] ⟨impl_isSound_1.ok, trivial⟩
    [{ lbl := 4, live := [(0, none), (1, none), (7, none), (8, none)], ms := [], vs := [.c (.sl false (.int .i64)), .c (.fn 65 [(.int .i64)]), .c (.int .i64), .c (.int .i64)], bs := [], f := fun k x y => slices_IndexFunc_105_65.l4 k x.1 x.2.1.1 x.2.2.1 x.2.2.2.1 }] { c := fun _ => none, cc := [], ms := [], tn := [], sh := false, fm := [] } rfl 5000 ⟨⟨fun _ _ => rfl, fun k x y => by kernel_rfl⟩, trivial⟩ (fun k x y => by kernel_rfl)

/-! ### slices.ContainsFunc[[]int,int]: function 64 -/
def slices_ContainsFunc_64_65.f (k : Nat) (a0 : List Int) (p1_0 : Int) : Option (Bool) := (slices_IndexFunc_105_65.f k a0 p1_0).bind fun t1 => (some (decide (t1 ≥ 0)))
def slices_ContainsFunc_64_65.c : FnD := { f := 64, sh := false, ps := [.c (.sl (.int .i64)), .fn 65 [(.int .i64)]], pb := [], vc := .c (.bool), bs := [], R := Bool, fn := fun k x y => slices_ContainsFunc_64_65.f k x.1 x.2.1.1, out := fun y => (y, ()), inn := fun d => d.1, inv := fun _ => rfl }
theorem slices_ContainsFunc_64_65.ok : slices_ContainsFunc_64_65.c.OK Tryz.prog :=
  FnD.of slices_ContainsFunc_64_65.c mix tok (fn := Tryz.f64) Tryz.func64 (by kernel_rfl) (fun _ _ => by kernel_rfl) (by kernel_rfl) (by kernel_rfl) [slices_IndexFunc_105_65.c] ⟨slices_IndexFunc_105_65.ok, trivial⟩
    [] { c := fun _ => none, cc := [], ms := [], tn := [], sh := false, fm := [] } rfl 5000 trivial (fun k x y => by kernel_rfl)

/-! ### loop.example/g00076/impl.isChan: function 68 -/
def impl_isChan.f (a0 : S88) : Option (Bool) := (impl_within.f a0.f1 0 5).bind fun t1 => (if t1 = true then ((impl_within.f a0.f2 0 5).bind fun t2 => (if t2 = true then (if a0.f1 = a0.f2 then (some false) else (if a0.f0 = 0 then (if a0.f3 = 0 then (some true) else (if a0.f0 = 1 then ((impl_within.f a0.f3 1 8).bind fun t3 => (some t3)) else (some false))) else (if a0.f0 = 1 then ((impl_within.f a0.f3 1 8).bind fun t4 => (some t4)) else (some false)))) else (some false))) else (some false))
def impl_isChan.c : FnD := { f := 68, sh := false, ps := [.agg T88], pb := [], vc := .c (.bool), bs := [], R := Bool, fn := fun _ x y => impl_isChan.f x.1, out := fun y => (y, ()), inn := fun d => d.1, inv := fun _ => rfl }
theorem impl_isChan.ok : impl_isChan.c.OK Tryz.prog :=
  FnD.of impl_isChan.c mix tok (fn := Tryz.f68) Tryz.func68 (by kernel_rfl) (fun _ _ => by kernel_rfl) (by kernel_rfl) (by kernel_rfl) [impl_within.c] ⟨impl_within.ok, trivial⟩
    [] { c := fun _ => none, cc := [], ms := [], tn := [], sh := false, fm := [] } rfl 5000 trivial (fun k x y => by kernel_rfl)

/-! ### loop.example/g00076/impl.isSound$2: function 67 -/
def impl_isSound_2.f (a0 : S88) (c1 : Int) : Option (Bool) := (impl_isChan.f a0).bind fun t1 => (if t1 = true then (if a0.f1 ≥ c1 then (some true) else (some (decide (a0.f2 ≥ c1)))) else (some true))
def impl_isSound_2.c : FnD := { f := 67, sh := false, ps := [.agg T88, .cap (.int .i64)], pb := [], vc := .c (.bool), bs := [], R := Bool, fn := fun _ x y => impl_isSound_2.f x.1 x.2.1, out := fun y => (y, ()), inn := fun d => d.1, inv := fun _ => rfl }
theorem impl_isSound_2.ok : impl_isSound_2.c.OK Tryz.prog :=
  FnD.of impl_isSound_2.c mix tok (fn := Tryz.f67) Tryz.func67 (by kernel_rfl) (fun _ _ => by kernel_rfl) (by kernel_rfl) (by kernel_rfl) [impl_isChan.c] ⟨impl_isChan.ok, trivial⟩
    [] { c := fun _ => none, cc := [], ms := [], tn := [], sh := false, fm := [] } rfl 5000 trivial (fun k x y => by kernel_rfl)

/-! ### slices.IndexFunc[[]loop.example/g00076/impl.ChanRow,loop.example/g00076/impl.ChanRow]: function 106 -/
def slices_IndexFunc_106_67.l4 : Nat → (List S88) → Int → Int → Int → Option (Int)
  | 0, _, _, _, _ => none
  | k + 1, x0, x1_0, x7, x8 => if x8 < x7 then (if 0 ≤ x8 then (if x8 < (x0.length : Int) then ((impl_isSound_2.f (rd_T88 x0 x8) x1_0).bind fun t1 => (if t1 = true then (some x8) else (slices_IndexFunc_106_67.l4 k x0 x1_0 x7 (wrap64 (x8 + 1))))) else none) else none) else (some (-1))
def slices_IndexFunc_106_67.f (k : Nat) (a0 : List S88) (p1_0 : Int) : Option (Int) := slices_IndexFunc_106_67.l4 k a0 p1_0 (a0.length : Int) 0
def slices_IndexFunc_106_67.c : FnD := { f := 106, sh := false, ps := [.c (.sl T88), .fn 67 [(.int .i64)]], pb := [], vc := .c (.int .i64), bs := [], R := Int, fn := fun k x y => slices_IndexFunc_106_67.f k x.1 x.2.1.1, out := fun y => (y, ()), inn := fun d => d.1, inv := fun _ => rfl }
theorem slices_IndexFunc_106_67.ok : slices_IndexFunc_106_67.c.OK Tryz.prog :=
  FnD.of slices_IndexFunc_106_67.c mix tok (fn := Tryz.f106) Tryz.func106 (by kernel_rfl) (fun _ _ => by kernel_rfl) (by kernel_rfl) (by kernel_rfl) [impl_isSound_2.c] ⟨impl_isSound_2.ok, trivial⟩
    [{ lbl := 4, live := [(0, none), (1, none), (7, none), (8, none)], ms := [], vs := [.c (.sl false T88), .c (.fn 67 [(.int .i64)]), .c (.int .i64), .c (.int .i64)], bs := [], f := fun k x y => slices_IndexFunc_106_67.l4 k x.1 x.2.1.1 x.2.2.1 x.2.2.2.1 }] { c := fun _ => none, cc := [], ms := [], tn := [], sh := false, fm := [] } rfl 5000 ⟨⟨fun _ _ => rfl, fun k x y => by kernel_rfl⟩, trivial⟩ (fun k x y => by kernel_rfl)

end
end Go.Proofs.YtgnhojiogkeepaaGreat.PMe
