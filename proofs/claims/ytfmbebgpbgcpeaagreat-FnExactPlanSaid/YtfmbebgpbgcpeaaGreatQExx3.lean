/- Go functions as Lean functions, each with its contract. -/
import Derived.Test.YtfmbebgpbgcpeaaGreatQExx2
set_option linter.unusedVariables false
set_option maxRecDepth 100000
namespace Go.Proofs.YtfmbebgpbgcpeaaGreat.PEx
open Go Go.Proofs Go.RowKit Go.Proofs.YtfmbebgpbgcpeaaGreat.V
noncomputable section
/-! ### loop.example/g00076/impl.areSlots: function 90 -/
def impl_areSlots.l6 : Nat → Int → (List S95) → Int → Int → S43 → Option (Bool)
  | 0, _, _, _, _, _ => none
  | k + 1, x3, x7, x8, x9, y0 => if x9 < x8 then (if 0 ≤ x9 then (if x9 < (x7.length : Int) then ((impl_within.f ((rd_T95 x7 x9).f0) 0 (wrap64 ((y0.f7.length : Int) - 1))).bind fun t1 => (if t1 = true then ((impl_isSlotAt.f y0 (rd_T95 x7 x9) x3).bind fun t2 => (if t2 = true then (impl_areSlots.l6 k (wrap64 (((rd_T95 x7 x9).f1) + ((rd_T95 x7 x9).f2))) x7 x8 (wrap64 (x9 + 1)) y0) else (some false))) else (some false))) else none) else none) else ((impl_within.f (y0.f10.length : Int) 1 16).bind fun t3 => (some t3))
def impl_areSlots.f (k : Nat) (a0 : S43) : Option (Bool) := impl_areSlots.l6 k 0 a0.f10 (a0.f10.length : Int) 0 a0
def impl_areSlots.c : FnD := { f := 90, sh := false, ps := [.agg T43], pb := [], vc := .c (.bool), bs := [], R := Bool, fn := fun k x y => impl_areSlots.f k x.1, out := fun y => (y, ()), inn := fun d => d.1, inv := fun _ => rfl }
theorem impl_areSlots.ok : impl_areSlots.c.OK Tryz.prog :=
  FnD.of impl_areSlots.c mix tok (fn := Tryz.f90) Tryz.func90 (by kernel_rfl) (fun _ _ => by kernel_rfl) (by kernel_rfl) (by kernel_rfl) [impl_within.c, impl_isSlotAt.c] ⟨impl_within.ok, ⟨impl_isSlotAt.ok, trivial⟩⟩
    [{ lbl := 6, live := [(1, none), (3, none), (7, none), (8, none), (9, none)], ms := [], vs := [.c (.ptr 0 0), .c (.int .i64), .c (.sl false T95), .c (.int .i64), .c (.int .i64)], bs := [.cells 43 [.int .i64, .int .i64, .int .i64, .int .i64, .int .i64, .int .i64, .int .i64, .int .i64, .int .i64, .int .i64, .int .i64, .int .i64, .int .i64, .int .i64, .int .i64, .sl false T72, .sl false (.int .i64), .sl false T111, .sl false T95]], f := fun k x y => impl_areSlots.l6 k x.2.1 x.2.2.1 x.2.2.2.1 x.2.2.2.2.1 (y.1.1, (y.1.2.1, y.1.2.2.1, y.1.2.2.2.1), y.1.2.2.2.2.1, (y.1.2.2.2.2.2.1, y.1.2.2.2.2.2.2.1, y.1.2.2.2.2.2.2.2.1, y.1.2.2.2.2.2.2.2.2.1, y.1.2.2.2.2.2.2.2.2.2.1, y.1.2.2.2.2.2.2.2.2.2.2.1, y.1.2.2.2.2.2.2.2.2.2.2.2.1), y.1.2.2.2.2.2.2.2.2.2.2.2.2.1, y.1.2.2.2.2.2.2.2.2.2.2.2.2.2.1, y.1.2.2.2.2.2.2.2.2.2.2.2.2.2.2.1, y.1.2.2.2.2.2.2.2.2.2.2.2.2.2.2.2.1, y.1.2.2.2.2.2.2.2.2.2.2.2.2.2.2.2.2.1, y.1.2.2.2.2.2.2.2.2.2.2.2.2.2.2.2.2.2.1, y.1.2.2.2.2.2.2.2.2.2.2.2.2.2.2.2.2.2.2.1) }] { c := fun _ => none, cc := [], ms := [], tn := [], sh := false, fm := [] } rfl 5000 ⟨⟨fun _ _ => rfl, fun k x y => by kernel_rfl⟩, trivial⟩ (fun k x y => by kernel_rfl)

/-! ### loop.example/g00076/impl.isSound: function 45 -/
def impl_isSound.f (k : Nat) (a0 : S43) : Option (Bool) := (impl_isMem.f a0.f0).bind fun t1 => (if t1 = true then ((impl_isShape.f a0.f1).bind fun t2 => (if t2 = true then ((impl_within.f a0.f2 1 8).bind fun t3 => (if t3 = true then ((impl_areCosts.f k a0.f3).bind fun t4 => (if t4 = true then ((impl_isSpan.f a0.f4).bind fun t5 => (if t5 = true then ((impl_isSpan.f a0.f5).bind fun t6 => (if t6 = true then ((impl_isSpan.f a0.f6).bind fun t7 => (if t7 = true then ((impl_worstStep.f k a0.f3).bind fun t8 => (if a0.f5 < t8 then (some false) else ((impl_within.f (a0.f7.length : Int) 1 6).bind fun t9 => (if t9 = true then ((impl_areParts.f k a0).bind fun t10 => (if t10 = true then (if (a0.f8.length : Int) > 8 then (some false) else ((slices_ContainsFunc_60_85.f k a0.f8 (a0.f7.length : Int)).bind fun t11 => (if t11 = true then (some false) else (if (a0.f9.length : Int) > 8 then (some false) else ((slices_ContainsFunc_86_87.f k a0.f9 (a0.f7.length : Int)).bind fun t12 => (if t12 = true then (some false) else ((impl_worstPad.f k a0.f3 a0.f1 a0.f9).bind fun t13 => (if a0.f4 < t13 then (some false) else ((impl_areSlots.f k a0).bind fun t14 => (some t14)))))))))) else (some false))) else (some false))))) else (some false))) else (some false))) else (some false))) else (some false))) else (some false))) else (some false))) else (some false))
def impl_isSound.c : FnD := { f := 45, sh := false, ps := [.agg T43], pb := [], vc := .c (.bool), bs := [], R := Bool, fn := fun k x y => impl_isSound.f k x.1, out := fun y => (y, ()), inn := fun d => d.1, inv := fun _ => rfl }
theorem impl_isSound.ok : impl_isSound.c.OK Tryz.prog :=
  FnD.of impl_isSound.c mix tok (fn := Tryz.f45) Tryz.func45 (by kernel_rfl) (fun _ _ => by kernel_rfl) (by kernel_rfl) (by kernel_rfl) [impl_isMem.c, impl_isShape.c, impl_within.c, impl_areCosts.c, impl_isSpan.c, impl_worstStep.c, impl_areParts.c, slices_ContainsFunc_60_85.c, slices_ContainsFunc_86_87.c, impl_worstPad.c, impl_areSlots.c] ⟨impl_isMem.ok, ⟨impl_isShape.ok, ⟨impl_within.ok, ⟨impl_areCosts.ok, ⟨impl_isSpan.ok, ⟨impl_worstStep.ok, ⟨impl_areParts.ok, ⟨slices_ContainsFunc_60_85.ok, ⟨slices_ContainsFunc_86_87.ok, ⟨impl_worstPad.ok, ⟨impl_areSlots.ok, trivial⟩⟩⟩⟩⟩⟩⟩⟩⟩⟩⟩
    [] { c := fun _ => none, cc := [], ms := [], tn := [], sh := false, fm := [] } rfl 5000 trivial (fun k x y => by kernel_rfl)

/-! ### loop.example/g00076/impl.Plan$1: function 61 -/
def impl_Plan_1.f (a0 : Int) : Option (Bool) := (impl_within.f a0 0 5000).bind fun t1 => (some (!t1))
def impl_Plan_1.c : FnD := { f := 61, sh := false, ps := [.c (.int .i64)], pb := [], vc := .c (.bool), bs := [], R := Bool, fn := fun _ x y => impl_Plan_1.f x.1, out := fun y => (y, ()), inn := fun d => d.1, inv := fun _ => rfl }
theorem impl_Plan_1.ok : impl_Plan_1.c.OK Tryz.prog :=
  FnD.of impl_Plan_1.c mix tok (fn := Tryz.f61) Tryz.func61 (by kernel_rfl) (fun _ _ => by kernel_rfl) (by kernel_rfl) (by kernel_rfl) [impl_within.c] ⟨impl_within.ok, trivial⟩
    [] { c := fun _ => none, cc := [], ms := [], tn := [], sh := false, fm := [] } rfl 5000 trivial (fun k x y => by kernel_rfl)

/-! ### slices.IndexFunc[[]int,int]: function 98 -/
def slices_IndexFunc_98_61.l4 : Nat → (List Int) → Int → Int → Option (Int)
  | 0, _, _, _ => none
  | k + 1, x0, x7, x8 => if x8 < x7 then (if 0 ≤ x8 then (if x8 < (x0.length : Int) then ((impl_Plan_1.f (rd x0 x8)).bind fun t1 => (if t1 = true then (some x8) else (slices_IndexFunc_98_61.l4 k x0 x7 (wrap64 (x8 + 1))))) else none) else none) else (some (-1))
def slices_IndexFunc_98_61.f (k : Nat) (a0 : List Int) : Option (Int) := slices_IndexFunc_98_61.l4 k a0 (a0.length : Int) 0
def slices_IndexFunc_98_61.c : FnD := { f := 98, sh := false, ps := [.c (.sl (.int .i64)), .fn 61 []], pb := [], vc := .c (.int .i64), bs := [], R := Int, fn := fun k x y => slices_IndexFunc_98_61.f k x.1, out := fun y => (y, ()), inn := fun d => d.1, inv := fun _ => rfl }
theorem slices_IndexFunc_98_61.ok : slices_IndexFunc_98_61.c.OK Tryz.prog :=
  FnD.of slices_IndexFunc_98_61.c mix tok (fn := Tryz.f98) Tryz.func98 (by kernel_rfl) (fun _ _ => by kernel_rfl) (by kernel_rfl) (by kernel_rfl) [impl_Plan_1.c] ⟨impl_Plan_1.ok, trivial⟩
    [{ lbl := 4, live := [(0, none), (1, none), (7, none), (8, none)], ms := [], vs := [.c (.sl false (.int .i64)), .c (.fn 61 []), .c (.int .i64), .c (.int .i64)], bs := [], f := fun k x y => slices_IndexFunc_98_61.l4 k x.1 x.2.2.1 x.2.2.2.1 }] { c := fun _ => none, cc := [], ms := [], tn := [], sh := false, fm := [] } rfl 5000 ⟨⟨fun _ _ => rfl, fun k x y => by kernel_rfl⟩, trivial⟩ (fun k x y => by kernel_rfl)

/-! ### slices.ContainsFunc[[]int,int]: function 60 -/
def slices_ContainsFunc_60_61.f (k : Nat) (a0 : List Int) : Option (Bool) := (slices_IndexFunc_98_61.f k a0).bind fun t1 => (some (decide (t1 ≥ 0)))
def slices_ContainsFunc_60_61.c : FnD := { f := 60, sh := false, ps := [.c (.sl (.int .i64)), .fn 61 []], pb := [], vc := .c (.bool), bs := [], R := Bool, fn := fun k x y => slices_ContainsFunc_60_61.f k x.1, out := fun y => (y, ()), inn := fun d => d.1, inv := fun _ => rfl }
theorem slices_ContainsFunc_60_61.ok : slices_ContainsFunc_60_61.c.OK Tryz.prog :=
  FnD.of slices_ContainsFunc_60_61.c mix tok (fn := Tryz.f60) Tryz.func60 (by kernel_rfl) (fun _ _ => by kernel_rfl) (by kernel_rfl) (by kernel_rfl) [slices_IndexFunc_98_61.c] ⟨slices_IndexFunc_98_61.ok, trivial⟩
    [] { c := fun _ => none, cc := [], ms := [], tn := [], sh := false, fm := [] } rfl 5000 trivial (fun k x y => by kernel_rfl)

/-! ### slices.Clone[[]loop.example/g00076/impl.PartRow,loop.example/g00076/impl.PartRow]: function 99 -/
def slices_Clone_99.f (a0 : List S72) : Option ((List S72)) := if a0.length = 0 then (sameO (some ([] : List S72)) (if ([] : List S72).length + a0.length < 2199023255552 then (some (([] : List S72) ++ a0)) else none)) else (if ([] : List S72).length + a0.length < 2199023255552 then (some (([] : List S72) ++ a0)) else none)
def slices_Clone_99.c : FnD := { f := 99, sh := true, ps := [.c (.sl T72)], pb := [], vc := .c (.own 0), bs := [.arr T72 .sh], R := (List S72), fn := fun _ x y => slices_Clone_99.f x.1, out := fun y => ((), (y, ())), inn := fun d => d.2.1, inv := fun _ => rfl }
theorem slices_Clone_99.ok : slices_Clone_99.c.OK Tryz.prog :=
  FnD.of slices_Clone_99.c mix tok (fn := Tryz.f99) Tryz.func99 (by kernel_rfl) (fun _ _ => by kernel_rfl) (by kernel_rfl) (by kernel_rfl) [] trivial
    [] { c := fun n => bif Nat.beq n 0 then some (.row T72) else  none, cc := [], ms := [.sh], tn := [], sh := true, fm := [] } rfl 5000 trivial (fun k x y => by kernel_rfl)

/-! ### slices.Clone[[]loop.example/g00076/impl.Window,loop.example/g00076/impl.Window]: function 100 -/
def slices_Clone_100.f (a0 : List S75) : Option ((List S75)) := if a0.length = 0 then (sameO (some ([] : List S75)) (if ([] : List S75).length + a0.length < 5864062014805 then (some (([] : List S75) ++ a0)) else none)) else (if ([] : List S75).length + a0.length < 5864062014805 then (some (([] : List S75) ++ a0)) else none)
def slices_Clone_100.c : FnD := { f := 100, sh := false, ps := [.c (.sl T75)], pb := [], vc := .c (.own 0), bs := [.arr T75 .un], R := (List S75), fn := fun _ x y => slices_Clone_100.f x.1, out := fun y => ((), (y, ())), inn := fun d => d.2.1, inv := fun _ => rfl }
theorem slices_Clone_100.ok : slices_Clone_100.c.OK Tryz.prog :=
  FnD.of slices_Clone_100.c mix tok (fn := Tryz.f100) Tryz.func100 (by kernel_rfl) (fun _ _ => by kernel_rfl) (by kernel_rfl) (by kernel_rfl) [] trivial
    [] { c := fun n => bif Nat.beq n 0 then some (.row T75) else  none, cc := [], ms := [], tn := [], sh := false, fm := [] } rfl 5000 trivial (fun k x y => by kernel_rfl)

/-! ### slices.Clone[[]int,int]: function 101 -/
def slices_Clone_101.f (a0 : List Int) : Option ((List Int)) := if a0.length = 0 then (sameO (some ([] : List Int)) (if ([] : List Int).length + a0.length < 17592186044416 then (some (([] : List Int) ++ a0)) else none)) else (if ([] : List Int).length + a0.length < 17592186044416 then (some (([] : List Int) ++ a0)) else none)
def slices_Clone_101.c : FnD := { f := 101, sh := false, ps := [.c (.sl (.int .i64))], pb := [], vc := .c (.own 0), bs := [.arr (.int .i64) .un], R := (List Int), fn := fun _ x y => slices_Clone_101.f x.1, out := fun y => ((), (y, ())), inn := fun d => d.2.1, inv := fun _ => rfl }
theorem slices_Clone_101.ok : slices_Clone_101.c.OK Tryz.prog :=
  FnD.of slices_Clone_101.c mix tok (fn := Tryz.f101) Tryz.func101 (by kernel_rfl) (fun _ _ => by kernel_rfl) (by kernel_rfl) (by kernel_rfl) [] trivial
    [] { c := fun n => bif Nat.beq n 0 then some (.row (.int .i64)) else  none, cc := [], ms := [], tn := [], sh := false, fm := [] } rfl 5000 trivial (fun k x y => by kernel_rfl)

/-! ### slices.Clone[[]loop.example/g00076/impl.ChanRow,loop.example/g00076/impl.ChanRow]: function 102 -/
def slices_Clone_102.f (a0 : List S111) : Option ((List S111)) := if a0.length = 0 then (sameO (some ([] : List S111)) (if ([] : List S111).length + a0.length < 4398046511104 then (some (([] : List S111) ++ a0)) else none)) else (if ([] : List S111).length + a0.length < 4398046511104 then (some (([] : List S111) ++ a0)) else none)
def slices_Clone_102.c : FnD := { f := 102, sh := false, ps := [.c (.sl T111)], pb := [], vc := .c (.own 0), bs := [.arr T111 .un], R := (List S111), fn := fun _ x y => slices_Clone_102.f x.1, out := fun y => ((), (y, ())), inn := fun d => d.2.1, inv := fun _ => rfl }
theorem slices_Clone_102.ok : slices_Clone_102.c.OK Tryz.prog :=
  FnD.of slices_Clone_102.c mix tok (fn := Tryz.f102) Tryz.func102 (by kernel_rfl) (fun _ _ => by kernel_rfl) (by kernel_rfl) (by kernel_rfl) [] trivial
    [] { c := fun n => bif Nat.beq n 0 then some (.row T111) else  none, cc := [], ms := [], tn := [], sh := false, fm := [] } rfl 5000 trivial (fun k x y => by kernel_rfl)

/-! ### slices.Clone[[]loop.example/g00076/impl.Slot,loop.example/g00076/impl.Slot]: function 68 -/
def slices_Clone_68.f (a0 : List S95) : Option ((List S95)) := if a0.length = 0 then (sameO (some ([] : List S95)) (if ([] : List S95).length + a0.length < 5864062014805 then (some (([] : List S95) ++ a0)) else none)) else (if ([] : List S95).length + a0.length < 5864062014805 then (some (([] : List S95) ++ a0)) else none)
def slices_Clone_68.c : FnD := { f := 68, sh := false, ps := [.c (.sl T95)], pb := [], vc := .c (.own 0), bs := [.arr T95 .un], R := (List S95), fn := fun _ x y => slices_Clone_68.f x.1, out := fun y => ((), (y, ())), inn := fun d => d.2.1, inv := fun _ => rfl }
theorem slices_Clone_68.ok : slices_Clone_68.c.OK Tryz.prog :=
  FnD.of slices_Clone_68.c mix tok (fn := Tryz.f68) Tryz.func68 (by kernel_rfl) (fun _ _ => by kernel_rfl) (by kernel_rfl) (by kernel_rfl) [] trivial
    [] { c := fun n => bif Nat.beq n 0 then some (.row T95) else  none, cc := [], ms := [], tn := [], sh := false, fm := [] } rfl 5000 trivial (fun k x y => by kernel_rfl)

/-! ### loop.example/g00076/impl.withSlots: function 62 -/
def impl_withSlots.l6 : Nat → (List S95) → Int → Int → S43 → S43 → (List S72 × Nat) → Option (S43)
  | 0, _, _, _, _, _, _ => none
  | k + 1, x1, x12, x13, y0, y1, h2 => if x13 < x12 then (if 0 ≤ x13 then (if x13 < (h2.1.length : Int) then (if h2.2 ≤ x13.toNat then ((slices_Clone_100.f ((rd_T72 h2.1 x13).f3)).bind fun t2 => (if 0 ≤ x13 then (if x13 < (h2.1.length : Int) then (if x13.toNat = h2.2 then (let q3 : List S72 := h2.1.set x13.toNat (⟨(rd_T72 h2.1 x13).f0, (rd_T72 h2.1 x13).f1, (rd_T72 h2.1 x13).f2, t2⟩ : S72); impl_withSlots.l6 k x1 x12 (wrap64 (x13 + 1)) y0 (⟨y1.f0, y1.f1, y1.f2, y1.f3, y1.f4, y1.f5, y1.f6, ([] : List S72), ([] : List Int), ([] : List S111), ([] : List S95)⟩ : S43) (q3, (h2.2 + 1))) else none) else none) else none)) else none) else none) else none) else ((slices_Clone_101.f y0.f8).bind fun t4 => ((slices_Clone_102.f y0.f9).bind fun t5 => ((slices_Clone_68.f x1).bind fun t6 => (if h2.1.length ≤ h2.2 then (some (⟨y0.f0, y0.f1, y0.f2, y0.f3, y0.f4, y0.f5, y0.f6, h2.1, t4, t5, t6⟩ : S43)) else none))))
def impl_withSlots.f (k : Nat) (a0 : S43) (a1 : List S95) : Option (S43) := (slices_Clone_99.f a0.f7).bind fun t1 => (impl_withSlots.l6 k a1 (t1.length : Int) 0 a0 (⟨0, (⟨0, 0, 0⟩ : S37), 0, (⟨0, 0, 0, 0, 0, 0, 0⟩ : S38), 0, 0, 0, ([] : List S72), ([] : List Int), ([] : List S111), ([] : List S95)⟩ : S43) (t1, 0))
def impl_withSlots.c : FnD := { f := 62, sh := false, ps := [.agg T43, .c (.sl T95)], pb := [], vc := .agg [.int .i64, .int .i64, .int .i64, .int .i64, .int .i64, .int .i64, .int .i64, .int .i64, .int .i64, .int .i64, .int .i64, .int .i64, .int .i64, .int .i64, .int .i64, .own 0, .own 1, .own 2, .own 3], bs := [.arr T72 .un, .arr (.int .i64) .un, .arr T111 .un, .arr T95 .un], R := S43, fn := fun k x y => impl_withSlots.f k x.1 x.2.1, out := fun y => ((y.1, y.2.1.1, y.2.1.2.1, y.2.1.2.2, y.2.2.1, y.2.2.2.1.1, y.2.2.2.1.2.1, y.2.2.2.1.2.2.1, y.2.2.2.1.2.2.2.1, y.2.2.2.1.2.2.2.2.1, y.2.2.2.1.2.2.2.2.2.1, y.2.2.2.1.2.2.2.2.2.2, y.2.2.2.2.1, y.2.2.2.2.2.1, y.2.2.2.2.2.2.1, (), (), (), (), ()), (y.2.2.2.2.2.2.2.1, y.2.2.2.2.2.2.2.2.1, y.2.2.2.2.2.2.2.2.2.1, y.2.2.2.2.2.2.2.2.2.2, ())), inn := fun d => (d.1.1, (d.1.2.1, d.1.2.2.1, d.1.2.2.2.1), d.1.2.2.2.2.1, (d.1.2.2.2.2.2.1, d.1.2.2.2.2.2.2.1, d.1.2.2.2.2.2.2.2.1, d.1.2.2.2.2.2.2.2.2.1, d.1.2.2.2.2.2.2.2.2.2.1, d.1.2.2.2.2.2.2.2.2.2.2.1, d.1.2.2.2.2.2.2.2.2.2.2.2.1), d.1.2.2.2.2.2.2.2.2.2.2.2.2.1, d.1.2.2.2.2.2.2.2.2.2.2.2.2.2.1, d.1.2.2.2.2.2.2.2.2.2.2.2.2.2.2.1, d.2.1, d.2.2.1, d.2.2.2.1, d.2.2.2.2.1), inv := fun _ => rfl }
theorem impl_withSlots.ok : impl_withSlots.c.OK Tryz.prog :=
  FnD.of impl_withSlots.c mix tok (fn := Tryz.f62) Tryz.func62 (by kernel_rfl) (fun _ _ => by kernel_rfl) (by kernel_rfl) (by kernel_rfl) [slices_Clone_99.c, slices_Clone_100.c, slices_Clone_101.c, slices_Clone_102.c, slices_Clone_68.c] ⟨slices_Clone_99.ok, ⟨slices_Clone_100.ok, ⟨slices_Clone_101.ok, ⟨slices_Clone_102.ok, ⟨slices_Clone_68.ok, trivial⟩⟩⟩⟩⟩
    [{ lbl := 6, live := [(1, none), (2, none), (4, none), (5, none), (11, none), (12, none), (13, none)], ms := [], tn := [.no, .no, .mx], vs := [.c (.sl false T95), .c (.ptr 0 0), .c (.ptr 1 0), .c (.own 2), .c (.own 2), .c (.int .i64), .c (.int .i64)], bs := [.cells 43 [.int .i64, .int .i64, .int .i64, .int .i64, .int .i64, .int .i64, .int .i64, .int .i64, .int .i64, .int .i64, .int .i64, .int .i64, .int .i64, .int .i64, .int .i64, .sl false T72, .sl false (.int .i64), .sl false T111, .sl false T95], .cells 43 [.int .i64, .int .i64, .int .i64, .int .i64, .int .i64, .int .i64, .int .i64, .int .i64, .int .i64, .int .i64, .int .i64, .int .i64, .int .i64, .int .i64, .int .i64, .nil, .nil, .nil, .nil], .mix T72], f := fun k x y => impl_withSlots.l6 k x.1 x.2.2.2.2.2.1 x.2.2.2.2.2.2.1 (y.1.1, (y.1.2.1, y.1.2.2.1, y.1.2.2.2.1), y.1.2.2.2.2.1, (y.1.2.2.2.2.2.1, y.1.2.2.2.2.2.2.1, y.1.2.2.2.2.2.2.2.1, y.1.2.2.2.2.2.2.2.2.1, y.1.2.2.2.2.2.2.2.2.2.1, y.1.2.2.2.2.2.2.2.2.2.2.1, y.1.2.2.2.2.2.2.2.2.2.2.2.1), y.1.2.2.2.2.2.2.2.2.2.2.2.2.1, y.1.2.2.2.2.2.2.2.2.2.2.2.2.2.1, y.1.2.2.2.2.2.2.2.2.2.2.2.2.2.2.1, y.1.2.2.2.2.2.2.2.2.2.2.2.2.2.2.2.1, y.1.2.2.2.2.2.2.2.2.2.2.2.2.2.2.2.2.1, y.1.2.2.2.2.2.2.2.2.2.2.2.2.2.2.2.2.2.1, y.1.2.2.2.2.2.2.2.2.2.2.2.2.2.2.2.2.2.2.1) (y.2.1.1, (y.2.1.2.1, y.2.1.2.2.1, y.2.1.2.2.2.1), y.2.1.2.2.2.2.1, (y.2.1.2.2.2.2.2.1, y.2.1.2.2.2.2.2.2.1, y.2.1.2.2.2.2.2.2.2.1, y.2.1.2.2.2.2.2.2.2.2.1, y.2.1.2.2.2.2.2.2.2.2.2.1, y.2.1.2.2.2.2.2.2.2.2.2.2.1, y.2.1.2.2.2.2.2.2.2.2.2.2.2.1), y.2.1.2.2.2.2.2.2.2.2.2.2.2.2.1, y.2.1.2.2.2.2.2.2.2.2.2.2.2.2.2.1, y.2.1.2.2.2.2.2.2.2.2.2.2.2.2.2.2.1, [], [], [], []) y.2.2.1 }] { c := fun _ => none, cc := [], ms := [], tn := [.un], sh := false, fm := [] } rfl 5000 ⟨⟨fun _ _ => rfl, fun k x y => by kernel_rfl⟩, trivial⟩ (fun k x y => by kernel_rfl)

/-! ### loop.example/g00076/impl.Plan: function 22 -/
def impl_Plan.l12 : Nat → Int → (List Int) → Int → Int → S43 → S43 → (List S95) → Option (S43 × Bool)
  | 0, _, _, _, _, _, _, _ => none
  | k + 1, x7, x27, x28, x29, y0, y1, h2 => if x29 < x28 then (if 0 ≤ x29 then (if x29 < (x27.length : Int) then (if (rd x27 x29) > 0 then (if h2.length + ([(⟨x29, x7, (wrap64 ((wrap64 (y0.f4 + y0.f5)) + (rd x27 x29)))⟩ : S95)] : List S95).length < 5864062014805 then (impl_Plan.l12 k (wrap64 (x7 + (wrap64 ((wrap64 (y0.f4 + y0.f5)) + (rd x27 x29))))) x27 x28 (wrap64 (x29 + 1)) y0 (⟨y1.f0, y1.f1, y1.f2, y1.f3, y1.f4, y1.f5, y1.f6, ([] : List S72), ([] : List Int), ([] : List S111), ([] : List S95)⟩ : S43) (h2 ++ ([(⟨x29, x7, (wrap64 ((wrap64 (y0.f4 + y0.f5)) + (rd x27 x29)))⟩ : S95)] : List S95))) else none) else (impl_Plan.l12 k x7 x27 x28 (wrap64 (x29 + 1)) y0 (⟨y1.f0, y1.f1, y1.f2, y1.f3, y1.f4, y1.f5, y1.f6, ([] : List S72), ([] : List Int), ([] : List S111), ([] : List S95)⟩ : S43) h2)) else none) else none) else (if (h2.length : Int) = 0 then (some ((⟨0, (⟨0, 0, 0⟩ : S37), 0, (⟨0, 0, 0, 0, 0, 0, 0⟩ : S38), 0, 0, 0, ([] : List S72), ([] : List Int), ([] : List S111), ([] : List S95)⟩ : S43), false)) else (if x7 > y0.f6 then (some ((⟨0, (⟨0, 0, 0⟩ : S37), 0, (⟨0, 0, 0, 0, 0, 0, 0⟩ : S38), 0, 0, 0, ([] : List S72), ([] : List Int), ([] : List S111), ([] : List S95)⟩ : S43), false)) else ((impl_withSlots.f k y0 h2).bind fun t3 => (some (t3, true)))))
def impl_Plan.f (k : Nat) (a0 : S43) (a1 : List Int) : Option (S43 × Bool) := (impl_isSound.f k a0).bind fun t1 => (if t1 = true then (if (a1.length : Int) = (a0.f7.length : Int) then ((slices_ContainsFunc_60_61.f k a1).bind fun t2 => (if t2 = true then (some ((⟨0, (⟨0, 0, 0⟩ : S37), 0, (⟨0, 0, 0, 0, 0, 0, 0⟩ : S38), 0, 0, 0, ([] : List S72), ([] : List Int), ([] : List S111), ([] : List S95)⟩ : S43), false)) else (impl_Plan.l12 k 0 a1 (a1.length : Int) 0 a0 (⟨0, (⟨0, 0, 0⟩ : S37), 0, (⟨0, 0, 0, 0, 0, 0, 0⟩ : S38), 0, 0, 0, ([] : List S72), ([] : List Int), ([] : List S111), ([] : List S95)⟩ : S43) ([] : List S95)))) else (some ((⟨0, (⟨0, 0, 0⟩ : S37), 0, (⟨0, 0, 0, 0, 0, 0, 0⟩ : S38), 0, 0, 0, ([] : List S72), ([] : List Int), ([] : List S111), ([] : List S95)⟩ : S43), false))) else (some ((⟨0, (⟨0, 0, 0⟩ : S37), 0, (⟨0, 0, 0, 0, 0, 0, 0⟩ : S38), 0, 0, 0, ([] : List S72), ([] : List Int), ([] : List S111), ([] : List S95)⟩ : S43), false)))
def impl_Plan.c : FnD := { f := 22, sh := false, ps := [.agg T43, .c (.sl (.int .i64))], pb := [], vc := .tup [(true, [.int .i64, .int .i64, .int .i64, .int .i64, .int .i64, .int .i64, .int .i64, .int .i64, .int .i64, .int .i64, .int .i64, .int .i64, .int .i64, .int .i64, .int .i64, .own 0, .own 1, .own 2, .own 3]), (false, [.bool])], bs := [.arr T72 .un, .arr (.int .i64) .un, .arr T111 .un, .arr T95 .un], R := S43 × Bool, fn := fun k x y => impl_Plan.f k x.1 x.2.1, out := fun y => (((y.1.1, y.1.2.1.1, y.1.2.1.2.1, y.1.2.1.2.2, y.1.2.2.1, y.1.2.2.2.1.1, y.1.2.2.2.1.2.1, y.1.2.2.2.1.2.2.1, y.1.2.2.2.1.2.2.2.1, y.1.2.2.2.1.2.2.2.2.1, y.1.2.2.2.1.2.2.2.2.2.1, y.1.2.2.2.1.2.2.2.2.2.2, y.1.2.2.2.2.1, y.1.2.2.2.2.2.1, y.1.2.2.2.2.2.2.1, (), (), (), (), ()), (y.2, ()), ()), (y.1.2.2.2.2.2.2.2.1, y.1.2.2.2.2.2.2.2.2.1, y.1.2.2.2.2.2.2.2.2.2.1, y.1.2.2.2.2.2.2.2.2.2.2, ())), inn := fun d => ((d.1.1.1, (d.1.1.2.1, d.1.1.2.2.1, d.1.1.2.2.2.1), d.1.1.2.2.2.2.1, (d.1.1.2.2.2.2.2.1, d.1.1.2.2.2.2.2.2.1, d.1.1.2.2.2.2.2.2.2.1, d.1.1.2.2.2.2.2.2.2.2.1, d.1.1.2.2.2.2.2.2.2.2.2.1, d.1.1.2.2.2.2.2.2.2.2.2.2.1, d.1.1.2.2.2.2.2.2.2.2.2.2.2.1), d.1.1.2.2.2.2.2.2.2.2.2.2.2.2.1, d.1.1.2.2.2.2.2.2.2.2.2.2.2.2.2.1, d.1.1.2.2.2.2.2.2.2.2.2.2.2.2.2.2.1, d.2.1, d.2.2.1, d.2.2.2.1, d.2.2.2.2.1), d.1.2.1.1), inv := fun _ => rfl }
theorem impl_Plan.ok : impl_Plan.c.OK Tryz.prog :=
  FnD.of impl_Plan.c mix tok (fn := Tryz.f22) Tryz.func22 (by kernel_rfl) (fun _ _ => by kernel_rfl) (by kernel_rfl) (by kernel_rfl) [impl_isSound.c, slices_ContainsFunc_60_61.c, impl_withSlots.c] ⟨impl_isSound.ok, ⟨slices_ContainsFunc_60_61.ok, ⟨impl_withSlots.ok, trivial⟩⟩⟩
    [{ lbl := 12, live := [(2, none), (4, none), (6, some (.row T95)), (7, none), (27, none), (28, none), (29, none)], ms := [], vs := [.c (.ptr 0 0), .c (.ptr 1 0), .c (.own 2), .c (.int .i64), .c (.sl false (.int .i64)), .c (.int .i64), .c (.int .i64)], bs := [.cells 43 [.int .i64, .int .i64, .int .i64, .int .i64, .int .i64, .int .i64, .int .i64, .int .i64, .int .i64, .int .i64, .int .i64, .int .i64, .int .i64, .int .i64, .int .i64, .sl false T72, .sl false (.int .i64), .sl false T111, .sl false T95], .cells 43 [.int .i64, .int .i64, .int .i64, .int .i64, .int .i64, .int .i64, .int .i64, .int .i64, .int .i64, .int .i64, .int .i64, .int .i64, .int .i64, .int .i64, .int .i64, .nil, .nil, .nil, .nil], .arr T95 .un], f := fun k x y => impl_Plan.l12 k x.2.2.2.1 x.2.2.2.2.1 x.2.2.2.2.2.1 x.2.2.2.2.2.2.1 (y.1.1, (y.1.2.1, y.1.2.2.1, y.1.2.2.2.1), y.1.2.2.2.2.1, (y.1.2.2.2.2.2.1, y.1.2.2.2.2.2.2.1, y.1.2.2.2.2.2.2.2.1, y.1.2.2.2.2.2.2.2.2.1, y.1.2.2.2.2.2.2.2.2.2.1, y.1.2.2.2.2.2.2.2.2.2.2.1, y.1.2.2.2.2.2.2.2.2.2.2.2.1), y.1.2.2.2.2.2.2.2.2.2.2.2.2.1, y.1.2.2.2.2.2.2.2.2.2.2.2.2.2.1, y.1.2.2.2.2.2.2.2.2.2.2.2.2.2.2.1, y.1.2.2.2.2.2.2.2.2.2.2.2.2.2.2.2.1, y.1.2.2.2.2.2.2.2.2.2.2.2.2.2.2.2.2.1, y.1.2.2.2.2.2.2.2.2.2.2.2.2.2.2.2.2.2.1, y.1.2.2.2.2.2.2.2.2.2.2.2.2.2.2.2.2.2.2.1) (y.2.1.1, (y.2.1.2.1, y.2.1.2.2.1, y.2.1.2.2.2.1), y.2.1.2.2.2.2.1, (y.2.1.2.2.2.2.2.1, y.2.1.2.2.2.2.2.2.1, y.2.1.2.2.2.2.2.2.2.1, y.2.1.2.2.2.2.2.2.2.2.1, y.2.1.2.2.2.2.2.2.2.2.2.1, y.2.1.2.2.2.2.2.2.2.2.2.2.1, y.2.1.2.2.2.2.2.2.2.2.2.2.2.1), y.2.1.2.2.2.2.2.2.2.2.2.2.2.2.1, y.2.1.2.2.2.2.2.2.2.2.2.2.2.2.2.1, y.2.1.2.2.2.2.2.2.2.2.2.2.2.2.2.2.1, [], [], [], []) y.2.2.1 }] { c := fun n => bif Nat.beq n 15 then some (.row T72) else bif Nat.beq n 16 then some (.row (.int .i64)) else bif Nat.beq n 17 then some (.row T111) else bif Nat.beq n 18 then some (.row T95) else  none, cc := [], ms := [], tn := [], sh := false, fm := [] } rfl 5000 ⟨⟨fun _ _ => rfl, fun k x y => by kernel_rfl⟩, trivial⟩ (fun k x y => by kernel_rfl)

/-! ### loop.example/g00076/laws.eqShape: function 49 -/
def laws_eqShape.f (a0 : S37) (a1 : S37) : Option (Bool) := if a0.f0 = a1.f0 then (if a0.f1 = a1.f1 then (if a0.f2 = a1.f2 then (some true) else (some false)) else (some false)) else (some false)
def laws_eqShape.c : FnD := { f := 49, sh := false, ps := [.agg T37, .agg T37], pb := [], vc := .c (.bool), bs := [], R := Bool, fn := fun _ x y => laws_eqShape.f x.1 x.2.1, out := fun y => (y, ()), inn := fun d => d.1, inv := fun _ => rfl }
theorem laws_eqShape.ok : laws_eqShape.c.OK Tryz.prog :=
  FnD.of laws_eqShape.c mix tok (fn := Tryz.f49) Tryz.func49 (by kernel_rfl) (fun _ _ => by kernel_rfl) (by kernel_rfl) (by kernel_rfl) [] trivial
    [] { c := fun _ => none, cc := [], ms := [], tn := [], sh := false, fm := [] } rfl 5000 trivial (fun k x y => by kernel_rfl)

/-! ### loop.example/g00076/laws.eqCosts: function 50 -/
def laws_eqCosts.f (a0 : S38) (a1 : S38) : Option (Bool) := if a0.f0 = a1.f0 then (if a0.f1 = a1.f1 then (if a0.f2 = a1.f2 then (if a0.f3 = a1.f3 then (if a0.f4 = a1.f4 then (if a0.f5 = a1.f5 then (if a0.f6 = a1.f6 then (some true) else (some false)) else (some false)) else (some false)) else (some false)) else (some false)) else (some false)) else (some false)
def laws_eqCosts.c : FnD := { f := 50, sh := false, ps := [.agg T38, .agg T38], pb := [], vc := .c (.bool), bs := [], R := Bool, fn := fun _ x y => laws_eqCosts.f x.1 x.2.1, out := fun y => (y, ()), inn := fun d => d.1, inv := fun _ => rfl }
theorem laws_eqCosts.ok : laws_eqCosts.c.OK Tryz.prog :=
  FnD.of laws_eqCosts.c mix tok (fn := Tryz.f50) Tryz.func50 (by kernel_rfl) (fun _ _ => by kernel_rfl) (by kernel_rfl) (by kernel_rfl) [] trivial
    [] { c := fun _ => none, cc := [], ms := [], tn := [], sh := false, fm := [] } rfl 5000 trivial (fun k x y => by kernel_rfl)

/-! ### loop.example/g00076/laws.eqPolicy: function 133 -/
def laws_eqPolicy.f (a0 : S69) (a1 : S69) : Option (Bool) := if a0.f0 = a1.f0 then (if a0.f1 = a1.f1 then (some true) else (some false)) else (some false)
def laws_eqPolicy.c : FnD := { f := 133, sh := false, ps := [.agg T69, .agg T69], pb := [], vc := .c (.bool), bs := [], R := Bool, fn := fun _ x y => laws_eqPolicy.f x.1 x.2.1, out := fun y => (y, ()), inn := fun d => d.1, inv := fun _ => rfl }
theorem laws_eqPolicy.ok : laws_eqPolicy.c.OK Tryz.prog :=
  FnD.of laws_eqPolicy.c mix tok (fn := Tryz.f133) Tryz.func133 (by kernel_rfl) (fun _ _ => by kernel_rfl) (by kernel_rfl) (by kernel_rfl) [] trivial
    [] { c := fun _ => none, cc := [], ms := [], tn := [], sh := false, fm := [] } rfl 5000 trivial (fun k x y => by kernel_rfl)

/-! ### loop.example/g00076/laws.eqWindow: function 147 -/
def laws_eqWindow.f (a0 : S75) (a1 : S75) : Option (Bool) := if a0.f0 = a1.f0 then (if a0.f1 = a1.f1 then (if a0.f2 = a1.f2 then (some true) else (some false)) else (some false)) else (some false)
def laws_eqWindow.c : FnD := { f := 147, sh := false, ps := [.agg T75, .agg T75], pb := [], vc := .c (.bool), bs := [], R := Bool, fn := fun _ x y => laws_eqWindow.f x.1 x.2.1, out := fun y => (y, ()), inn := fun d => d.1, inv := fun _ => rfl }
theorem laws_eqWindow.ok : laws_eqWindow.c.OK Tryz.prog :=
  FnD.of laws_eqWindow.c mix tok (fn := Tryz.f147) Tryz.func147 (by kernel_rfl) (fun _ _ => by kernel_rfl) (by kernel_rfl) (by kernel_rfl) [] trivial
    [] { c := fun _ => none, cc := [], ms := [], tn := [], sh := false, fm := [] } rfl 5000 trivial (fun k x y => by kernel_rfl)

/-! ### loop.example/g00076/laws.eqWindowS: function 134 -/
def laws_eqWindowS.l8 : Nat → (List S75) → (List S75) → Int → Option (Bool)
  | 0, _, _, _ => none
  | k + 1, x0, x1, x5 => if x5 < (x0.length : Int) then (if 0 ≤ x5 then (if x5 < (x0.length : Int) then (if 0 ≤ x5 then (if x5 < (x1.length : Int) then ((laws_eqWindow.f (rd_T75 x0 x5) (rd_T75 x1 x5)).bind fun t1 => (if t1 = true then (laws_eqWindowS.l8 k x0 x1 (wrap64 (x5 + 1))) else (some false))) else none) else none) else none) else none) else (some true)
def laws_eqWindowS.f (k : Nat) (a0 : List S75) (a1 : List S75) : Option (Bool) := if (a0.length : Int) = (a1.length : Int) then (laws_eqWindowS.l8 k a0 a1 0) else (some false)
def laws_eqWindowS.c : FnD := { f := 134, sh := false, ps := [.c (.sl T75), .c (.sl T75)], pb := [], vc := .c (.bool), bs := [], R := Bool, fn := fun k x y => laws_eqWindowS.f k x.1 x.2.1, out := fun y => (y, ()), inn := fun d => d.1, inv := fun _ => rfl }
theorem laws_eqWindowS.ok : laws_eqWindowS.c.OK Tryz.prog :=
  FnD.of laws_eqWindowS.c mix tok (fn := Tryz.f134) Tryz.func134 (by kernel_rfl) (fun _ _ => by kernel_rfl) (by kernel_rfl) (by kernel_rfl) [laws_eqWindow.c] ⟨laws_eqWindow.ok, trivial⟩
    [{ lbl := 8, live := [(0, none), (1, none), (5, none)], ms := [], vs := [.c (.sl false T75), .c (.sl false T75), .c (.int .i64)], bs := [], f := fun k x y => laws_eqWindowS.l8 k x.1 x.2.1 x.2.2.1 }] { c := fun _ => none, cc := [], ms := [], tn := [], sh := false, fm := [] } rfl 5000 ⟨⟨fun _ _ => rfl, fun k x y => by kernel_rfl⟩, trivial⟩ (fun k x y => by kernel_rfl)

/-! ### loop.example/g00076/laws.eqPartRow: function 93 -/
def laws_eqPartRow.f (k : Nat) (a0 : S72) (a1 : S72) : Option (Bool) := if a0.f0 = a1.f0 then (if a0.f1 = a1.f1 then ((laws_eqPolicy.f a0.f2 a1.f2).bind fun t1 => (if t1 = true then ((laws_eqWindowS.f k a0.f3 a1.f3).bind fun t2 => (if t2 = true then (some true) else (some false))) else (some false))) else (some false)) else (some false)
def laws_eqPartRow.c : FnD := { f := 93, sh := false, ps := [.agg T72, .agg T72], pb := [], vc := .c (.bool), bs := [], R := Bool, fn := fun k x y => laws_eqPartRow.f k x.1 x.2.1, out := fun y => (y, ()), inn := fun d => d.1, inv := fun _ => rfl }
theorem laws_eqPartRow.ok : laws_eqPartRow.c.OK Tryz.prog :=
  FnD.of laws_eqPartRow.c mix tok (fn := Tryz.f93) Tryz.func93 (by kernel_rfl) (fun _ _ => by kernel_rfl) (by kernel_rfl) (by kernel_rfl) [laws_eqPolicy.c, laws_eqWindowS.c] ⟨laws_eqPolicy.ok, ⟨laws_eqWindowS.ok, trivial⟩⟩
    [] { c := fun _ => none, cc := [], ms := [], tn := [], sh := false, fm := [] } rfl 5000 trivial (fun k x y => by kernel_rfl)

/-! ### loop.example/g00076/laws.eqPartRowS: function 51 -/
def laws_eqPartRowS.l8 : Nat → (List S72) → (List S72) → Int → Option (Bool)
  | 0, _, _, _ => none
  | k + 1, x0, x1, x5 => if x5 < (x0.length : Int) then (if 0 ≤ x5 then (if x5 < (x0.length : Int) then (if 0 ≤ x5 then (if x5 < (x1.length : Int) then ((laws_eqPartRow.f k (rd_T72 x0 x5) (rd_T72 x1 x5)).bind fun t1 => (if t1 = true then (laws_eqPartRowS.l8 k x0 x1 (wrap64 (x5 + 1))) else (some false))) else none) else none) else none) else none) else (some true)
def laws_eqPartRowS.f (k : Nat) (a0 : List S72) (a1 : List S72) : Option (Bool) := if (a0.length : Int) = (a1.length : Int) then (laws_eqPartRowS.l8 k a0 a1 0) else (some false)
def laws_eqPartRowS.c : FnD := { f := 51, sh := false, ps := [.c (.sl T72), .c (.sl T72)], pb := [], vc := .c (.bool), bs := [], R := Bool, fn := fun k x y => laws_eqPartRowS.f k x.1 x.2.1, out := fun y => (y, ()), inn := fun d => d.1, inv := fun _ => rfl }
theorem laws_eqPartRowS.ok : laws_eqPartRowS.c.OK Tryz.prog :=
  FnD.of laws_eqPartRowS.c mix tok (fn := Tryz.f51) Tryz.func51 (by kernel_rfl) (fun _ _ => by kernel_rfl) (by kernel_rfl) (by kernel_rfl) [laws_eqPartRow.c] ⟨laws_eqPartRow.ok, trivial⟩
    [{ lbl := 8, live := [(0, none), (1, none), (5, none)], ms := [], vs := [.c (.sl false T72), .c (.sl false T72), .c (.int .i64)], bs := [], f := fun k x y => laws_eqPartRowS.l8 k x.1 x.2.1 x.2.2.1 }] { c := fun _ => none, cc := [], ms := [], tn := [], sh := false, fm := [] } rfl 5000 ⟨⟨fun _ _ => rfl, fun k x y => by kernel_rfl⟩, trivial⟩ (fun k x y => by kernel_rfl)

/-! ### loop.example/g00076/laws.eqIntS: function 23 -/
def laws_eqIntS.l8 : Nat → (List Int) → (List Int) → Int → Option (Bool)
  | 0, _, _, _ => none
  | k + 1, x0, x1, x5 => if x5 < (x0.length : Int) then (if 0 ≤ x5 then (if x5 < (x0.length : Int) then (if 0 ≤ x5 then (if x5 < (x1.length : Int) then (if (rd x0 x5) = (rd x1 x5) then (laws_eqIntS.l8 k x0 x1 (wrap64 (x5 + 1))) else (some false)) else none) else none) else none) else none) else (some true)
def laws_eqIntS.f (k : Nat) (a0 : List Int) (a1 : List Int) : Option (Bool) := if (a0.length : Int) = (a1.length : Int) then (laws_eqIntS.l8 k a0 a1 0) else (some false)
def laws_eqIntS.c : FnD := { f := 23, sh := false, ps := [.c (.sl (.int .i64)), .c (.sl (.int .i64))], pb := [], vc := .c (.bool), bs := [], R := Bool, fn := fun k x y => laws_eqIntS.f k x.1 x.2.1, out := fun y => (y, ()), inn := fun d => d.1, inv := fun _ => rfl }
theorem laws_eqIntS.ok : laws_eqIntS.c.OK Tryz.prog :=
  FnD.of laws_eqIntS.c mix tok (fn := Tryz.f23) Tryz.func23 (by kernel_rfl) (fun _ _ => by kernel_rfl) (by kernel_rfl) (by kernel_rfl) [] trivial
    [{ lbl := 8, live := [(0, none), (1, none), (5, none)], ms := [], vs := [.c (.sl false (.int .i64)), .c (.sl false (.int .i64)), .c (.int .i64)], bs := [], f := fun k x y => laws_eqIntS.l8 k x.1 x.2.1 x.2.2.1 }] { c := fun _ => none, cc := [], ms := [], tn := [], sh := false, fm := [] } rfl 5000 ⟨⟨fun _ _ => rfl, fun k x y => by kernel_rfl⟩, trivial⟩ (fun k x y => by kernel_rfl)

/-! ### loop.example/g00076/laws.eqChanRow: function 94 -/
def laws_eqChanRow.f (a0 : S111) (a1 : S111) : Option (Bool) := if a0.f0 = a1.f0 then (if a0.f1 = a1.f1 then (if a0.f2 = a1.f2 then (if a0.f3 = a1.f3 then (some true) else (some false)) else (some false)) else (some false)) else (some false)
def laws_eqChanRow.c : FnD := { f := 94, sh := false, ps := [.agg T111, .agg T111], pb := [], vc := .c (.bool), bs := [], R := Bool, fn := fun _ x y => laws_eqChanRow.f x.1 x.2.1, out := fun y => (y, ()), inn := fun d => d.1, inv := fun _ => rfl }
theorem laws_eqChanRow.ok : laws_eqChanRow.c.OK Tryz.prog :=
  FnD.of laws_eqChanRow.c mix tok (fn := Tryz.f94) Tryz.func94 (by kernel_rfl) (fun _ _ => by kernel_rfl) (by kernel_rfl) (by kernel_rfl) [] trivial
    [] { c := fun _ => none, cc := [], ms := [], tn := [], sh := false, fm := [] } rfl 5000 trivial (fun k x y => by kernel_rfl)

/-! ### loop.example/g00076/laws.eqChanRowS: function 52 -/
def laws_eqChanRowS.l8 : Nat → (List S111) → (List S111) → Int → Option (Bool)
  | 0, _, _, _ => none
  | k + 1, x0, x1, x5 => if x5 < (x0.length : Int) then (if 0 ≤ x5 then (if x5 < (x0.length : Int) then (if 0 ≤ x5 then (if x5 < (x1.length : Int) then ((laws_eqChanRow.f (rd_T111 x0 x5) (rd_T111 x1 x5)).bind fun t1 => (if t1 = true then (laws_eqChanRowS.l8 k x0 x1 (wrap64 (x5 + 1))) else (some false))) else none) else none) else none) else none) else (some true)
def laws_eqChanRowS.f (k : Nat) (a0 : List S111) (a1 : List S111) : Option (Bool) := if (a0.length : Int) = (a1.length : Int) then (laws_eqChanRowS.l8 k a0 a1 0) else (some false)
def laws_eqChanRowS.c : FnD := { f := 52, sh := false, ps := [.c (.sl T111), .c (.sl T111)], pb := [], vc := .c (.bool), bs := [], R := Bool, fn := fun k x y => laws_eqChanRowS.f k x.1 x.2.1, out := fun y => (y, ()), inn := fun d => d.1, inv := fun _ => rfl }
theorem laws_eqChanRowS.ok : laws_eqChanRowS.c.OK Tryz.prog :=
  FnD.of laws_eqChanRowS.c mix tok (fn := Tryz.f52) Tryz.func52 (by kernel_rfl) (fun _ _ => by kernel_rfl) (by kernel_rfl) (by kernel_rfl) [laws_eqChanRow.c] ⟨laws_eqChanRow.ok, trivial⟩
    [{ lbl := 8, live := [(0, none), (1, none), (5, none)], ms := [], vs := [.c (.sl false T111), .c (.sl false T111), .c (.int .i64)], bs := [], f := fun k x y => laws_eqChanRowS.l8 k x.1 x.2.1 x.2.2.1 }] { c := fun _ => none, cc := [], ms := [], tn := [], sh := false, fm := [] } rfl 5000 ⟨⟨fun _ _ => rfl, fun k x y => by kernel_rfl⟩, trivial⟩ (fun k x y => by kernel_rfl)

/-! ### loop.example/g00076/laws.eqSlot: function 95 -/
def laws_eqSlot.f (a0 : S95) (a1 : S95) : Option (Bool) := if a0.f0 = a1.f0 then (if a0.f1 = a1.f1 then (if a0.f2 = a1.f2 then (some true) else (some false)) else (some false)) else (some false)
def laws_eqSlot.c : FnD := { f := 95, sh := false, ps := [.agg T95, .agg T95], pb := [], vc := .c (.bool), bs := [], R := Bool, fn := fun _ x y => laws_eqSlot.f x.1 x.2.1, out := fun y => (y, ()), inn := fun d => d.1, inv := fun _ => rfl }
theorem laws_eqSlot.ok : laws_eqSlot.c.OK Tryz.prog :=
  FnD.of laws_eqSlot.c mix tok (fn := Tryz.f95) Tryz.func95 (by kernel_rfl) (fun _ _ => by kernel_rfl) (by kernel_rfl) (by kernel_rfl) [] trivial
    [] { c := fun _ => none, cc := [], ms := [], tn := [], sh := false, fm := [] } rfl 5000 trivial (fun k x y => by kernel_rfl)

/-! ### loop.example/g00076/laws.eqSlotS: function 53 -/
def laws_eqSlotS.l8 : Nat → (List S95) → (List S95) → Int → Option (Bool)
  | 0, _, _, _ => none
  | k + 1, x0, x1, x5 => if x5 < (x0.length : Int) then (if 0 ≤ x5 then (if x5 < (x0.length : Int) then (if 0 ≤ x5 then (if x5 < (x1.length : Int) then ((laws_eqSlot.f (rd_T95 x0 x5) (rd_T95 x1 x5)).bind fun t1 => (if t1 = true then (laws_eqSlotS.l8 k x0 x1 (wrap64 (x5 + 1))) else (some false))) else none) else none) else none) else none) else (some true)
def laws_eqSlotS.f (k : Nat) (a0 : List S95) (a1 : List S95) : Option (Bool) := if (a0.length : Int) = (a1.length : Int) then (laws_eqSlotS.l8 k a0 a1 0) else (some false)
def laws_eqSlotS.c : FnD := { f := 53, sh := false, ps := [.c (.sl T95), .c (.sl T95)], pb := [], vc := .c (.bool), bs := [], R := Bool, fn := fun k x y => laws_eqSlotS.f k x.1 x.2.1, out := fun y => (y, ()), inn := fun d => d.1, inv := fun _ => rfl }
theorem laws_eqSlotS.ok : laws_eqSlotS.c.OK Tryz.prog :=
  FnD.of laws_eqSlotS.c mix tok (fn := Tryz.f53) Tryz.func53 (by kernel_rfl) (fun _ _ => by kernel_rfl) (by kernel_rfl) (by kernel_rfl) [laws_eqSlot.c] ⟨laws_eqSlot.ok, trivial⟩
    [{ lbl := 8, live := [(0, none), (1, none), (5, none)], ms := [], vs := [.c (.sl false T95), .c (.sl false T95), .c (.int .i64)], bs := [], f := fun k x y => laws_eqSlotS.l8 k x.1 x.2.1 x.2.2.1 }] { c := fun _ => none, cc := [], ms := [], tn := [], sh := false, fm := [] } rfl 5000 ⟨⟨fun _ _ => rfl, fun k x y => by kernel_rfl⟩, trivial⟩ (fun k x y => by kernel_rfl)

/-! ### loop.example/g00076/laws.eqTables: function 14 -/
def laws_eqTables.f (k : Nat) (a0 : S43) (a1 : S43) : Option (Bool) := if a0.f0 = a1.f0 then ((laws_eqShape.f a0.f1 a1.f1).bind fun t1 => (if t1 = true then (if a0.f2 = a1.f2 then ((laws_eqCosts.f a0.f3 a1.f3).bind fun t2 => (if t2 = true then (if a0.f4 = a1.f4 then (if a0.f5 = a1.f5 then (if a0.f6 = a1.f6 then ((laws_eqPartRowS.f k a0.f7 a1.f7).bind fun t3 => (if t3 = true then ((laws_eqIntS.f k a0.f8 a1.f8).bind fun t4 => (if t4 = true then ((laws_eqChanRowS.f k a0.f9 a1.f9).bind fun t5 => (if t5 = true then ((laws_eqSlotS.f k a0.f10 a1.f10).bind fun t6 => (if t6 = true then (some true) else (some false))) else (some false))) else (some false))) else (some false))) else (some false)) else (some false)) else (some false)) else (some false))) else (some false)) else (some false))) else (some false)
def laws_eqTables.c : FnD := { f := 14, sh := false, ps := [.agg T43, .agg T43], pb := [], vc := .c (.bool), bs := [], R := Bool, fn := fun k x y => laws_eqTables.f k x.1 x.2.1, out := fun y => (y, ()), inn := fun d => d.1, inv := fun _ => rfl }
theorem laws_eqTables.ok : laws_eqTables.c.OK Tryz.prog :=
  FnD.of laws_eqTables.c mix tok (fn := Tryz.f14) Tryz.func14 (by kernel_rfl) (fun _ _ => by kernel_rfl) (by kernel_rfl) (by kernel_rfl) [laws_eqShape.c, laws_eqCosts.c, laws_eqPartRowS.c, laws_eqIntS.c, laws_eqChanRowS.c, laws_eqSlotS.c] ⟨laws_eqShape.ok, ⟨laws_eqCosts.ok, ⟨laws_eqPartRowS.ok, ⟨laws_eqIntS.ok, ⟨laws_eqChanRowS.ok, ⟨laws_eqSlotS.ok, trivial⟩⟩⟩⟩⟩⟩
    [] { c := fun _ => none, cc := [], ms := [], tn := [], sh := false, fm := [] } rfl 5000 trivial (fun k x y => by kernel_rfl)

/-! ### loop.example/g00076/laws.markText: function 96 -/
def laws_markText.l8 : Nat → Int → ByteArray → Option (ByteArray)
  | 0, _, _ => none
  | k + 1, x0, x3 => if x0 > 0 then (if (strOf ([(IntKind.wrap .u8 ((wrap64 (48 + (Int.tmod x0 10)))))] : List Int)).size + x3.size ≤ 9223372036854775807 then (laws_markText.l8 k (wrap64 (Int.tdiv x0 10)) ((strOf ([(IntKind.wrap .u8 ((wrap64 (48 + (Int.tmod x0 10)))))] : List Int)) ++ x3)) else none) else (if (ByteArray.mk #[109]).size + x3.size ≤ 9223372036854775807 then (some ((ByteArray.mk #[109]) ++ x3)) else none)
def laws_markText.f (k : Nat) (a0 : Int) : Option (ByteArray) := if a0 ≤ 0 then (some (ByteArray.mk #[109, 48])) else (laws_markText.l8 k a0 (ByteArray.mk #[]))
def laws_markText.c : FnD := { f := 96, sh := false, ps := [.c (.int .i64)], pb := [], vc := .c (.str), bs := [], R := ByteArray, fn := fun k x y => laws_markText.f k x.1, out := fun y => (y, ()), inn := fun d => d.1, inv := fun _ => rfl }
theorem laws_markText.ok : laws_markText.c.OK Tryz.prog :=
  FnD.of laws_markText.c mix tok (fn := Tryz.f96) Tryz.func96 (by kernel_rfl) (fun _ _ => by kernel_rfl) (by kernel_rfl) (by kernel_rfl) [] trivial
    [{ lbl := 8, live := [(0, none), (3, none)], ms := [], vs := [.c (.int .i64), .c (.str)], bs := [], f := fun k x y => laws_markText.l8 k x.1 x.2.1 }] { c := fun _ => none, cc := [], ms := [], tn := [], sh := false, fm := [] } rfl 5000 ⟨⟨fun _ _ => rfl, fun k x y => by kernel_rfl⟩, trivial⟩ (fun k x y => by kernel_rfl)

/-! ### loop.example/g00076/laws.markWindowS: function 97 -/
def laws_markWindowS_o1.l4 : Nat → Int → Int → (List S75) → Option (Int × (List S75))
  | 0, _, _, _ => none
  | k + 1, x1, x5, h0 => if x5 < (h0.length : Int) then (if 0 ≤ x5 then (if x5 < (h0.length : Int) then ((let q1 : List S75 := h0.set x5.toNat (⟨x1, (rd_T75 h0 x5).f1, (rd_T75 h0 x5).f2⟩ : S75); if 0 ≤ x5 then (if x5 < (q1.length : Int) then ((let q2 : List S75 := q1.set x5.toNat (⟨(rd_T75 q1 x5).f0, (wrap64 (x1 + 1)), (rd_T75 q1 x5).f2⟩ : S75); if 0 ≤ x5 then (if x5 < (q2.length : Int) then ((let q3 : List S75 := q2.set x5.toNat (⟨(rd_T75 q2 x5).f0, (rd_T75 q2 x5).f1, (wrap64 ((wrap64 (x1 + 1)) + 1))⟩ : S75); laws_markWindowS_o1.l4 k (wrap64 ((wrap64 ((wrap64 (x1 + 1)) + 1)) + 1)) (wrap64 (x5 + 1)) q3)) else none) else none)) else none) else none)) else none) else none) else (some (x1, h0))
def laws_markWindowS_o1.f (k : Nat) (a1 : Int) (h0 : List S75) : Option (Int × (List S75)) := laws_markWindowS_o1.l4 k a1 0 h0
def laws_markWindowS_o1.c : FnD := { f := 97, sh := false, ps := [.vc (.c (.own 0)), .c (.int .i64)], pb := [.arr T75 .un], vc := .c (.int .i64), bs := [.arr T75 .un], R := Int × (List S75), fn := fun k x y => laws_markWindowS_o1.f k x.2.1 y.1, out := fun y => (y.1, (y.2, ())), inn := fun d => (d.1, d.2.1), inv := fun _ => rfl }
theorem laws_markWindowS_o1.ok : laws_markWindowS_o1.c.OK Tryz.prog :=
  FnD.of laws_markWindowS_o1.c mix tok (fn := Tryz.f97) Tryz.func97 (by kernel_rfl) (fun _ _ => by kernel_rfl) (by kernel_rfl) (by kernel_rfl) [] trivial
    [{ lbl := 4, live := [(0, none), (1, none), (5, none)], ms := [], vs := [.c (.own 0), .c (.int .i64), .c (.int .i64)], bs := [.arr T75 .un], f := fun k x y => laws_markWindowS_o1.l4 k x.2.1 x.2.2.1 y.1 }] { c := fun _ => none, cc := [], ms := [], tn := [], sh := false, fm := [] } rfl 5000 ⟨⟨fun _ _ => rfl, fun k x y => by kernel_rfl⟩, trivial⟩ (fun k x y => by kernel_rfl)

/-! ### loop.example/g00076/laws.markPartRowS: function 54 -/
def laws_markPartRowS_o1.l4 : Nat → Int → Int → (List S72) → Option (Int × (List S72))
  | 0, _, _, _ => none
  | k + 1, x1, x5, h0 => if x5 < (h0.length : Int) then ((laws_markText.f k x1).bind fun t1 => (if 0 ≤ x5 then (if x5 < (h0.length : Int) then ((let q2 : List S72 := h0.set x5.toNat (⟨t1, (rd_T72 h0 x5).f1, (rd_T72 h0 x5).f2, (rd_T72 h0 x5).f3⟩ : S72); if 0 ≤ x5 then (if x5 < (q2.length : Int) then ((let q3 : List S72 := q2.set x5.toNat (⟨(rd_T72 q2 x5).f0, (wrap64 (x1 + 1)), (rd_T72 q2 x5).f2, (rd_T72 q2 x5).f3⟩ : S72); if 0 ≤ x5 then (if x5 < (q3.length : Int) then ((let q4 : List S72 := q3.set x5.toNat (⟨(rd_T72 q3 x5).f0, (rd_T72 q3 x5).f1, (⟨(wrap64 ((wrap64 (x1 + 1)) + 1)), ((rd_T72 q3 x5).f2).f1⟩ : S69), (rd_T72 q3 x5).f3⟩ : S72); if 0 ≤ x5 then (if x5 < (q4.length : Int) then ((let q5 : List S72 := q4.set x5.toNat (⟨(rd_T72 q4 x5).f0, (rd_T72 q4 x5).f1, (⟨((rd_T72 q4 x5).f2).f0, (wrap64 ((wrap64 ((wrap64 (x1 + 1)) + 1)) + 1))⟩ : S69), (rd_T72 q4 x5).f3⟩ : S72); if 0 ≤ x5 then (if x5 < (q5.length : Int) then ((laws_markWindowS_o1.f k (wrap64 ((wrap64 ((wrap64 ((wrap64 (x1 + 1)) + 1)) + 1)) + 1)) ((rd_T72 q5 x5).f3)).bind fun t6 => (laws_markPartRowS_o1.l4 k t6.1 (wrap64 (x5 + 1)) (q5.set x5.toNat (⟨(rd_T72 q5 x5).f0, (rd_T72 q5 x5).f1, (rd_T72 q5 x5).f2, t6.2⟩ : S72)))) else none) else none)) else none) else none)) else none) else none)) else none) else none)) else none) else none)) else (some (x1, h0))
def laws_markPartRowS_o1.f (k : Nat) (a1 : Int) (h0 : List S72) : Option (Int × (List S72)) := laws_markPartRowS_o1.l4 k a1 0 h0
def laws_markPartRowS_o1.c : FnD := { f := 54, sh := false, ps := [.vc (.c (.own 0)), .c (.int .i64)], pb := [.arr T72 .un], vc := .c (.int .i64), bs := [.arr T72 .un], R := Int × (List S72), fn := fun k x y => laws_markPartRowS_o1.f k x.2.1 y.1, out := fun y => (y.1, (y.2, ())), inn := fun d => (d.1, d.2.1), inv := fun _ => rfl }
theorem laws_markPartRowS_o1.ok : laws_markPartRowS_o1.c.OK Tryz.prog :=
  FnD.of laws_markPartRowS_o1.c mix tok (fn := Tryz.f54) Tryz.func54 (by kernel_rfl) (fun _ _ => by kernel_rfl) (by kernel_rfl) (by kernel_rfl) [laws_markWindowS_o1.c, laws_markText.c] ⟨laws_markWindowS_o1.ok, ⟨laws_markText.ok, trivial⟩⟩
    [{ lbl := 4, live := [(0, none), (1, none), (5, none)], ms := [], vs := [.c (.own 0), .c (.int .i64), .c (.int .i64)], bs := [.arr T72 .un], f := fun k x y => laws_markPartRowS_o1.l4 k x.2.1 x.2.2.1 y.1 }] { c := fun _ => none, cc := [], ms := [], tn := [], sh := false, fm := [] } rfl 5000 ⟨⟨fun _ _ => rfl, fun k x y => by kernel_rfl⟩, trivial⟩ (fun k x y => by kernel_rfl)

/-! ### loop.example/g00076/laws.markIntS: function 24 -/
def laws_markIntS_o1.l4 : Nat → Int → Int → (List Int) → Option (Int × (List Int))
  | 0, _, _, _ => none
  | k + 1, x1, x5, h0 => if x5 < (h0.length : Int) then (if 0 ≤ x5 then (if x5 < (h0.length : Int) then (laws_markIntS_o1.l4 k (wrap64 (x1 + 1)) (wrap64 (x5 + 1)) (h0.set x5.toNat x1)) else none) else none) else (some (x1, h0))
def laws_markIntS_o1.f (k : Nat) (a1 : Int) (h0 : List Int) : Option (Int × (List Int)) := laws_markIntS_o1.l4 k a1 0 h0
def laws_markIntS_o1.c : FnD := { f := 24, sh := false, ps := [.vc (.c (.own 0)), .c (.int .i64)], pb := [.arr (.int .i64) .un], vc := .c (.int .i64), bs := [.arr (.int .i64) .un], R := Int × (List Int), fn := fun k x y => laws_markIntS_o1.f k x.2.1 y.1, out := fun y => (y.1, (y.2, ())), inn := fun d => (d.1, d.2.1), inv := fun _ => rfl }
theorem laws_markIntS_o1.ok : laws_markIntS_o1.c.OK Tryz.prog :=
  FnD.of laws_markIntS_o1.c mix tok (fn := Tryz.f24) Tryz.func24 (by kernel_rfl) (fun _ _ => by kernel_rfl) (by kernel_rfl) (by kernel_rfl) [] trivial
    [{ lbl := 4, live := [(0, none), (1, none), (5, none)], ms := [], vs := [.c (.own 0), .c (.int .i64), .c (.int .i64)], bs := [.arr (.int .i64) .un], f := fun k x y => laws_markIntS_o1.l4 k x.2.1 x.2.2.1 y.1 }] { c := fun _ => none, cc := [], ms := [], tn := [], sh := false, fm := [] } rfl 5000 ⟨⟨fun _ _ => rfl, fun k x y => by kernel_rfl⟩, trivial⟩ (fun k x y => by kernel_rfl)

/-! ### loop.example/g00076/laws.markChanRowS: function 55 -/
def laws_markChanRowS_o1.l4 : Nat → Int → Int → (List S111) → Option (Int × (List S111))
  | 0, _, _, _ => none
  | k + 1, x1, x5, h0 => if x5 < (h0.length : Int) then (if 0 ≤ x5 then (if x5 < (h0.length : Int) then ((let q1 : List S111 := h0.set x5.toNat (⟨x1, (rd_T111 h0 x5).f1, (rd_T111 h0 x5).f2, (rd_T111 h0 x5).f3⟩ : S111); if 0 ≤ x5 then (if x5 < (q1.length : Int) then ((let q2 : List S111 := q1.set x5.toNat (⟨(rd_T111 q1 x5).f0, (wrap64 (x1 + 1)), (rd_T111 q1 x5).f2, (rd_T111 q1 x5).f3⟩ : S111); if 0 ≤ x5 then (if x5 < (q2.length : Int) then ((let q3 : List S111 := q2.set x5.toNat (⟨(rd_T111 q2 x5).f0, (rd_T111 q2 x5).f1, (wrap64 ((wrap64 (x1 + 1)) + 1)), (rd_T111 q2 x5).f3⟩ : S111); if 0 ≤ x5 then (if x5 < (q3.length : Int) then ((let q4 : List S111 := q3.set x5.toNat (⟨(rd_T111 q3 x5).f0, (rd_T111 q3 x5).f1, (rd_T111 q3 x5).f2, (wrap64 ((wrap64 ((wrap64 (x1 + 1)) + 1)) + 1))⟩ : S111); laws_markChanRowS_o1.l4 k (wrap64 ((wrap64 ((wrap64 ((wrap64 (x1 + 1)) + 1)) + 1)) + 1)) (wrap64 (x5 + 1)) q4)) else none) else none)) else none) else none)) else none) else none)) else none) else none) else (some (x1, h0))
def laws_markChanRowS_o1.f (k : Nat) (a1 : Int) (h0 : List S111) : Option (Int × (List S111)) := laws_markChanRowS_o1.l4 k a1 0 h0
def laws_markChanRowS_o1.c : FnD := { f := 55, sh := false, ps := [.vc (.c (.own 0)), .c (.int .i64)], pb := [.arr T111 .un], vc := .c (.int .i64), bs := [.arr T111 .un], R := Int × (List S111), fn := fun k x y => laws_markChanRowS_o1.f k x.2.1 y.1, out := fun y => (y.1, (y.2, ())), inn := fun d => (d.1, d.2.1), inv := fun _ => rfl }
theorem laws_markChanRowS_o1.ok : laws_markChanRowS_o1.c.OK Tryz.prog :=
  FnD.of laws_markChanRowS_o1.c mix tok (fn := Tryz.f55) Tryz.func55 (by kernel_rfl) (fun _ _ => by kernel_rfl) (by kernel_rfl) (by kernel_rfl) [] trivial
    [{ lbl := 4, live := [(0, none), (1, none), (5, none)], ms := [], vs := [.c (.own 0), .c (.int .i64), .c (.int .i64)], bs := [.arr T111 .un], f := fun k x y => laws_markChanRowS_o1.l4 k x.2.1 x.2.2.1 y.1 }] { c := fun _ => none, cc := [], ms := [], tn := [], sh := false, fm := [] } rfl 5000 ⟨⟨fun _ _ => rfl, fun k x y => by kernel_rfl⟩, trivial⟩ (fun k x y => by kernel_rfl)

/-! ### loop.example/g00076/laws.markSlotS: function 56 -/
def laws_markSlotS_o1.l4 : Nat → Int → Int → (List S95) → Option (Int × (List S95))
  | 0, _, _, _ => none
  | k + 1, x1, x5, h0 => if x5 < (h0.length : Int) then (if 0 ≤ x5 then (if x5 < (h0.length : Int) then ((let q1 : List S95 := h0.set x5.toNat (⟨x1, (rd_T95 h0 x5).f1, (rd_T95 h0 x5).f2⟩ : S95); if 0 ≤ x5 then (if x5 < (q1.length : Int) then ((let q2 : List S95 := q1.set x5.toNat (⟨(rd_T95 q1 x5).f0, (wrap64 (x1 + 1)), (rd_T95 q1 x5).f2⟩ : S95); if 0 ≤ x5 then (if x5 < (q2.length : Int) then ((let q3 : List S95 := q2.set x5.toNat (⟨(rd_T95 q2 x5).f0, (rd_T95 q2 x5).f1, (wrap64 ((wrap64 (x1 + 1)) + 1))⟩ : S95); laws_markSlotS_o1.l4 k (wrap64 ((wrap64 ((wrap64 (x1 + 1)) + 1)) + 1)) (wrap64 (x5 + 1)) q3)) else none) else none)) else none) else none)) else none) else none) else (some (x1, h0))
def laws_markSlotS_o1.f (k : Nat) (a1 : Int) (h0 : List S95) : Option (Int × (List S95)) := laws_markSlotS_o1.l4 k a1 0 h0
def laws_markSlotS_o1.c : FnD := { f := 56, sh := false, ps := [.vc (.c (.own 0)), .c (.int .i64)], pb := [.arr T95 .un], vc := .c (.int .i64), bs := [.arr T95 .un], R := Int × (List S95), fn := fun k x y => laws_markSlotS_o1.f k x.2.1 y.1, out := fun y => (y.1, (y.2, ())), inn := fun d => (d.1, d.2.1), inv := fun _ => rfl }
theorem laws_markSlotS_o1.ok : laws_markSlotS_o1.c.OK Tryz.prog :=
  FnD.of laws_markSlotS_o1.c mix tok (fn := Tryz.f56) Tryz.func56 (by kernel_rfl) (fun _ _ => by kernel_rfl) (by kernel_rfl) (by kernel_rfl) [] trivial
    [{ lbl := 4, live := [(0, none), (1, none), (5, none)], ms := [], vs := [.c (.own 0), .c (.int .i64), .c (.int .i64)], bs := [.arr T95 .un], f := fun k x y => laws_markSlotS_o1.l4 k x.2.1 x.2.2.1 y.1 }] { c := fun _ => none, cc := [], ms := [], tn := [], sh := false, fm := [] } rfl 5000 ⟨⟨fun _ _ => rfl, fun k x y => by kernel_rfl⟩, trivial⟩ (fun k x y => by kernel_rfl)

/-! ### loop.example/g00076/laws.markTables: function 16 -/
def laws_markTables_o1.f (k : Nat) (a0_0 : Int) (a0_1 : Int) (a0_2 : Int) (a0_3 : Int) (a0_4 : Int) (a0_5 : Int) (a0_6 : Int) (a0_7 : Int) (a0_8 : Int) (a0_9 : Int) (a0_10 : Int) (a0_11 : Int) (a0_12 : Int) (a0_13 : Int) (a0_14 : Int) (a1 : Int) (h0 : List S72) (h1 : List Int) (h2 : List S111) (h3 : List S95) : Option (Int × (List S72) × (List Int) × (List S111) × (List S95)) := (laws_markPartRowS_o1.f k a1 h0).bind fun t1 => ((laws_markIntS_o1.f k t1.1 h1).bind fun t2 => ((laws_markChanRowS_o1.f k t2.1 h2).bind fun t3 => ((laws_markSlotS_o1.f k t3.1 h3).bind fun t4 => (some (t4.1, t1.2, t2.2, t3.2, t4.2)))))
def laws_markTables_o1.c : FnD := { f := 16, sh := false, ps := [.vc (.agg [.int .i64, .int .i64, .int .i64, .int .i64, .int .i64, .int .i64, .int .i64, .int .i64, .int .i64, .int .i64, .int .i64, .int .i64, .int .i64, .int .i64, .int .i64, .own 0, .own 1, .own 2, .own 3]), .c (.int .i64)], pb := [.arr T72 .un, .arr (.int .i64) .un, .arr T111 .un, .arr T95 .un], vc := .c (.int .i64), bs := [.arr T72 .un, .arr (.int .i64) .un, .arr T111 .un, .arr T95 .un], R := Int × (List S72) × (List Int) × (List S111) × (List S95), fn := fun k x y => laws_markTables_o1.f k x.1.1 x.1.2.1 x.1.2.2.1 x.1.2.2.2.1 x.1.2.2.2.2.1 x.1.2.2.2.2.2.1 x.1.2.2.2.2.2.2.1 x.1.2.2.2.2.2.2.2.1 x.1.2.2.2.2.2.2.2.2.1 x.1.2.2.2.2.2.2.2.2.2.1 x.1.2.2.2.2.2.2.2.2.2.2.1 x.1.2.2.2.2.2.2.2.2.2.2.2.1 x.1.2.2.2.2.2.2.2.2.2.2.2.2.1 x.1.2.2.2.2.2.2.2.2.2.2.2.2.2.1 x.1.2.2.2.2.2.2.2.2.2.2.2.2.2.2.1 x.2.1 y.1 y.2.1 y.2.2.1 y.2.2.2.1, out := fun y => (y.1, (y.2.1, y.2.2.1, y.2.2.2.1, y.2.2.2.2, ())), inn := fun d => (d.1, d.2.1, d.2.2.1, d.2.2.2.1, d.2.2.2.2.1), inv := fun _ => rfl }
theorem laws_markTables_o1.ok : laws_markTables_o1.c.OK Tryz.prog :=
  FnD.of laws_markTables_o1.c mix tok (fn := Tryz.f16) Tryz.func16 (by kernel_rfl) (fun _ _ => by kernel_rfl) (by kernel_rfl) (by kernel_rfl) [laws_markPartRowS_o1.c, laws_markIntS_o1.c, laws_markChanRowS_o1.c, laws_markSlotS_o1.c] ⟨laws_markPartRowS_o1.ok, ⟨laws_markIntS_o1.ok, ⟨laws_markChanRowS_o1.ok, ⟨laws_markSlotS_o1.ok, trivial⟩⟩⟩⟩
    [] { c := fun _ => none, cc := [], ms := [], tn := [], sh := false, fm := [] } rfl 5000 trivial (fun k x y => by kernel_rfl)

/-! ### loop.example/g00076/laws.heldWindowS: function 103 -/
def laws_heldWindowS.l4 : Nat → (List S75) → Int → Int → Option (Int)
  | 0, _, _, _ => none
  | k + 1, x0, x1, x5 => if x5 < (x0.length : Int) then (if 0 ≤ x5 then (if x5 < (x0.length : Int) then (if (rd_T75 x0 x5).f0 = x1 then (if 0 ≤ x5 then (if x5 < (x0.length : Int) then (if (rd_T75 x0 x5).f1 = (wrap64 (x1 + 1)) then (if 0 ≤ x5 then (if x5 < (x0.length : Int) then (if (rd_T75 x0 x5).f2 = (wrap64 ((wrap64 (x1 + 1)) + 1)) then (laws_heldWindowS.l4 k x0 (wrap64 ((wrap64 ((wrap64 (x1 + 1)) + 1)) + 1)) (wrap64 (x5 + 1))) else (some (-1))) else none) else none) else (some (-1))) else none) else none) else (some (-1))) else none) else none) else (some x1)
def laws_heldWindowS.f (k : Nat) (a0 : List S75) (a1 : Int) : Option (Int) := laws_heldWindowS.l4 k a0 a1 0
def laws_heldWindowS.c : FnD := { f := 103, sh := false, ps := [.c (.sl T75), .c (.int .i64)], pb := [], vc := .c (.int .i64), bs := [], R := Int, fn := fun k x y => laws_heldWindowS.f k x.1 x.2.1, out := fun y => (y, ()), inn := fun d => d.1, inv := fun _ => rfl }
theorem laws_heldWindowS.ok : laws_heldWindowS.c.OK Tryz.prog :=
  FnD.of laws_heldWindowS.c mix tok (fn := Tryz.f103) Tryz.func103 (by kernel_rfl) (fun _ _ => by kernel_rfl) (by kernel_rfl) (by kernel_rfl) [] trivial
    [{ lbl := 4, live := [(0, none), (1, none), (5, none)], ms := [], vs := [.c (.sl false T75), .c (.int .i64), .c (.int .i64)], bs := [], f := fun k x y => laws_heldWindowS.l4 k x.1 x.2.1 x.2.2.1 }] { c := fun _ => none, cc := [], ms := [], tn := [], sh := false, fm := [] } rfl 5000 ⟨⟨fun _ _ => rfl, fun k x y => by kernel_rfl⟩, trivial⟩ (fun k x y => by kernel_rfl)

/-! ### loop.example/g00076/laws.heldPartRowS: function 63 -/
def laws_heldPartRowS.l4 : Nat → (List S72) → Int → Int → Option (Int)
  | 0, _, _, _ => none
  | k + 1, x0, x1, x5 => if x5 < (x0.length : Int) then (if 0 ≤ x5 then (if x5 < (x0.length : Int) then ((laws_markText.f k x1).bind fun t1 => (if (rd_T72 x0 x5).f0 = t1 then (if 0 ≤ x5 then (if x5 < (x0.length : Int) then (if (rd_T72 x0 x5).f1 = (wrap64 (x1 + 1)) then (if 0 ≤ x5 then (if x5 < (x0.length : Int) then (if ((rd_T72 x0 x5).f2).f0 = (wrap64 ((wrap64 (x1 + 1)) + 1)) then (if 0 ≤ x5 then (if x5 < (x0.length : Int) then (if ((rd_T72 x0 x5).f2).f1 = (wrap64 ((wrap64 ((wrap64 (x1 + 1)) + 1)) + 1)) then (if 0 ≤ x5 then (if x5 < (x0.length : Int) then ((laws_heldWindowS.f k ((rd_T72 x0 x5).f3) (wrap64 ((wrap64 ((wrap64 ((wrap64 (x1 + 1)) + 1)) + 1)) + 1))).bind fun t2 => (if t2 < 0 then (some (-1)) else (laws_heldPartRowS.l4 k x0 t2 (wrap64 (x5 + 1))))) else none) else none) else (some (-1))) else none) else none) else (some (-1))) else none) else none) else (some (-1))) else none) else none) else (some (-1)))) else none) else none) else (some x1)
def laws_heldPartRowS.f (k : Nat) (a0 : List S72) (a1 : Int) : Option (Int) := laws_heldPartRowS.l4 k a0 a1 0
def laws_heldPartRowS.c : FnD := { f := 63, sh := false, ps := [.c (.sl T72), .c (.int .i64)], pb := [], vc := .c (.int .i64), bs := [], R := Int, fn := fun k x y => laws_heldPartRowS.f k x.1 x.2.1, out := fun y => (y, ()), inn := fun d => d.1, inv := fun _ => rfl }
theorem laws_heldPartRowS.ok : laws_heldPartRowS.c.OK Tryz.prog :=
  FnD.of laws_heldPartRowS.c mix tok (fn := Tryz.f63) Tryz.func63 (by kernel_rfl) (fun _ _ => by kernel_rfl) (by kernel_rfl) (by kernel_rfl) [laws_markText.c, laws_heldWindowS.c] ⟨laws_markText.ok, ⟨laws_heldWindowS.ok, trivial⟩⟩
    [{ lbl := 4, live := [(0, none), (1, none), (5, none)], ms := [], vs := [.c (.sl false T72), .c (.int .i64), .c (.int .i64)], bs := [], f := fun k x y => laws_heldPartRowS.l4 k x.1 x.2.1 x.2.2.1 }] { c := fun _ => none, cc := [], ms := [], tn := [], sh := false, fm := [] } rfl 5000 ⟨⟨fun _ _ => rfl, fun k x y => by kernel_rfl⟩, trivial⟩ (fun k x y => by kernel_rfl)

/-! ### loop.example/g00076/laws.heldIntS: function 64 -/
def laws_heldIntS.l4 : Nat → (List Int) → Int → Int → Option (Int)
  | 0, _, _, _ => none
  | k + 1, x0, x1, x5 => if x5 < (x0.length : Int) then (if 0 ≤ x5 then (if x5 < (x0.length : Int) then (if (rd x0 x5) = x1 then (laws_heldIntS.l4 k x0 (wrap64 (x1 + 1)) (wrap64 (x5 + 1))) else (some (-1))) else none) else none) else (some x1)
def laws_heldIntS.f (k : Nat) (a0 : List Int) (a1 : Int) : Option (Int) := laws_heldIntS.l4 k a0 a1 0
def laws_heldIntS.c : FnD := { f := 64, sh := false, ps := [.c (.sl (.int .i64)), .c (.int .i64)], pb := [], vc := .c (.int .i64), bs := [], R := Int, fn := fun k x y => laws_heldIntS.f k x.1 x.2.1, out := fun y => (y, ()), inn := fun d => d.1, inv := fun _ => rfl }
theorem laws_heldIntS.ok : laws_heldIntS.c.OK Tryz.prog :=
  FnD.of laws_heldIntS.c mix tok (fn := Tryz.f64) Tryz.func64 (by kernel_rfl) (fun _ _ => by kernel_rfl) (by kernel_rfl) (by kernel_rfl) [] trivial
    [{ lbl := 4, live := [(0, none), (1, none), (5, none)], ms := [], vs := [.c (.sl false (.int .i64)), .c (.int .i64), .c (.int .i64)], bs := [], f := fun k x y => laws_heldIntS.l4 k x.1 x.2.1 x.2.2.1 }] { c := fun _ => none, cc := [], ms := [], tn := [], sh := false, fm := [] } rfl 5000 ⟨⟨fun _ _ => rfl, fun k x y => by kernel_rfl⟩, trivial⟩ (fun k x y => by kernel_rfl)

end
end Go.Proofs.YtfmbebgpbgcpeaaGreat.PEx
