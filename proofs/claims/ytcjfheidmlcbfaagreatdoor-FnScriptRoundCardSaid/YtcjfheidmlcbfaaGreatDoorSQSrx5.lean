/- Go functions as Lean functions, each with its contract. -/
import Derived.Test.YtcjfheidmlcbfaaGreatDoorSQSrx4
set_option linter.unusedVariables false
set_option maxRecDepth 100000
namespace Go.Proofs.YtcjfheidmlcbfaaGreatDoor.PSr
open Go Go.Proofs Go.RowKit Go.Proofs.YtcjfheidmlcbfaaGreatDoor.V
noncomputable section
/-! ### loop.example/g00076/impl.areCosts: function 71 -/
def impl_areCosts.l4 : Nat → Int → Int → Int → Int → Int → Int → Int → S27 → Option (Bool)
  | 0, _, _, _, _, _, _, _, _ => none
  | k + 1, x17_0, x17_1, x17_2, x17_3, x17_4, x17_5, x18, y0 => if x18 < 6 then (if 0 ≤ x18 then (if x18 < ((6 : Nat) : Int) then ((impl_within.f (([x17_0, x17_1, x17_2, x17_3, x17_4, x17_5] : List Int).getD x18.toNat 0) 0 50).bind fun t1 => (if t1 = true then (impl_areCosts.l4 k x17_0 x17_1 x17_2 x17_3 x17_4 x17_5 (wrap64 (x18 + 1)) y0) else (some false))) else none) else none) else ((impl_within.f y0.f0 1 20).bind fun t2 => (some t2))
def impl_areCosts.f (k : Nat) (a0 : S27) : Option (Bool) := impl_areCosts.l4 k a0.f1 a0.f2 a0.f3 a0.f4 a0.f5 a0.f6 0 a0
def impl_areCosts.c : FnD := { f := 71, sh := false, ps := [.agg T27], pb := [], vc := .c (.bool), bs := [], R := Bool, fn := fun k x y => impl_areCosts.f k x.1, out := fun y => (y, ()), inn := fun d => d.1, inv := fun _ => rfl }
theorem impl_areCosts.ok : impl_areCosts.c.OK Tryz.prog :=
  FnD.of impl_areCosts.c mix tok (fn := Tryz.f71) Tryz.func71 (by kernel_rfl) (fun _ _ => by kernel_rfl) (by kernel_rfl) (by kernel_rfl) [impl_within.c] ⟨impl_within.ok, trivial⟩
    [{ lbl := 4, live := [(1, none), (17, none), (18, none)], ms := [], vs := [.c (.ptr 0 0), .agg [.int .i64, .int .i64, .int .i64, .int .i64, .int .i64, .int .i64], .c (.int .i64)], bs := [.cells 27 [.int .i64, .int .i64, .int .i64, .int .i64, .int .i64, .int .i64, .int .i64]], f := fun k x y => impl_areCosts.l4 k x.2.1.1 x.2.1.2.1 x.2.1.2.2.1 x.2.1.2.2.2.1 x.2.1.2.2.2.2.1 x.2.1.2.2.2.2.2.1 x.2.2.1 (y.1.1, y.1.2.1, y.1.2.2.1, y.1.2.2.2.1, y.1.2.2.2.2.1, y.1.2.2.2.2.2.1, y.1.2.2.2.2.2.2.1) }] { c := fun _ => none, cc := [], ms := [], tn := [], sh := false, fm := [] } rfl 5000 ⟨⟨fun _ _ => rfl, fun k x y => by kernel_rfl⟩, trivial⟩ (fun k x y => by kernel_rfl)

/-! ### loop.example/g00076/impl.isSpan: function 72 -/
def impl_isSpan.f (a0 : Int) : Option (Bool) := (impl_within.f a0 1 5000).bind fun t1 => (some t1)
def impl_isSpan.c : FnD := { f := 72, sh := false, ps := [.c (.int .i64)], pb := [], vc := .c (.bool), bs := [], R := Bool, fn := fun _ x y => impl_isSpan.f x.1, out := fun y => (y, ()), inn := fun d => d.1, inv := fun _ => rfl }
theorem impl_isSpan.ok : impl_isSpan.c.OK Tryz.prog :=
  FnD.of impl_isSpan.c mix tok (fn := Tryz.f72) Tryz.func72 (by kernel_rfl) (fun _ _ => by kernel_rfl) (by kernel_rfl) (by kernel_rfl) [impl_within.c] ⟨impl_within.ok, trivial⟩
    [] { c := fun _ => none, cc := [], ms := [], tn := [], sh := false, fm := [] } rfl 5000 trivial (fun k x y => by kernel_rfl)

/-! ### loop.example/g00076/impl.opCost: function 162 -/
def impl_opCost.f (a0 : S27) (a1 : Int) : Option (Int) := if a1 = 9 then (some (wrap64 (a0.f0 + a0.f1))) else (if a1 = 10 then (some (wrap64 (a0.f0 + a0.f1))) else ((impl_within.f a1 15 18).bind fun t1 => (if t1 = true then (some (wrap64 (a0.f0 + a0.f2))) else (if a1 ≥ 25 then (some (wrap64 (a0.f0 + a0.f5))) else (some a0.f0)))))
def impl_opCost.c : FnD := { f := 162, sh := false, ps := [.agg T27, .c (.int .i64)], pb := [], vc := .c (.int .i64), bs := [], R := Int, fn := fun _ x y => impl_opCost.f x.1 x.2.1, out := fun y => (y, ()), inn := fun d => d.1, inv := fun _ => rfl }
theorem impl_opCost.ok : impl_opCost.c.OK Tryz.prog :=
  FnD.of impl_opCost.c mix tok (fn := Tryz.f162) Tryz.func162 (by kernel_rfl) (fun _ _ => by kernel_rfl) (by kernel_rfl) (by kernel_rfl) [impl_within.c] ⟨impl_within.ok, trivial⟩
    [] { c := fun _ => none, cc := [], ms := [], tn := [], sh := false, fm := [] } rfl 5000 trivial (fun k x y => by kernel_rfl)

/-! ### loop.example/g00076/impl.accessCost: function 163 -/
def impl_accessCost.f (a0 : S27) (a1 : S233) : Option (Int) := if a1.f0 = true then (if a1.f1 = true then (if a1.f2 = true then (some (wrap64 (0 + a0.f6))) else (some 0)) else (if a1.f2 = true then (some (wrap64 ((wrap64 (0 + a0.f4)) + a0.f6))) else (some (wrap64 (0 + a0.f4))))) else (if a1.f1 = true then (if a1.f2 = true then (some (wrap64 ((wrap64 (0 + a0.f3)) + a0.f6))) else (some (wrap64 (0 + a0.f3)))) else (if a1.f2 = true then (some (wrap64 ((wrap64 ((wrap64 (0 + a0.f3)) + a0.f4)) + a0.f6))) else (some (wrap64 ((wrap64 (0 + a0.f3)) + a0.f4)))))
def impl_accessCost.c : FnD := { f := 163, sh := false, ps := [.agg T27, .agg T233], pb := [], vc := .c (.int .i64), bs := [], R := Int, fn := fun _ x y => impl_accessCost.f x.1 x.2.1, out := fun y => (y, ()), inn := fun d => d.1, inv := fun _ => rfl }
theorem impl_accessCost.ok : impl_accessCost.c.OK Tryz.prog :=
  FnD.of impl_accessCost.c mix tok (fn := Tryz.f163) Tryz.func163 (by kernel_rfl) (fun _ _ => by kernel_rfl) (by kernel_rfl) (by kernel_rfl) [] trivial
    [] { c := fun _ => none, cc := [], ms := [], tn := [], sh := false, fm := [] } rfl 5000 trivial (fun k x y => by kernel_rfl)

/-! ### loop.example/g00076/impl.WorstStep: function 118 -/
def impl_WorstStep.l10 : Nat → Int → Int → S27 → Option (Int)
  | 0, _, _, _ => none
  | k + 1, x3, x8, y0 => if x8 < 33 then ((impl_opCost.f y0 x8).bind fun t2 => (impl_WorstStep.l10 k (mx x3 t2) (wrap64 (x8 + 1)) y0)) else ((impl_accessCost.f y0 (⟨false, false, true⟩ : S233)).bind fun t3 => (some (wrap64 ((wrap64 (x3 + (wrap64 (2 * t3)))) + y0.f5))))
def impl_WorstStep.f (k : Nat) (a0 : S27) : Option (Int) := (impl_areCosts.f k a0).bind fun t1 => (if t1 = true then (impl_WorstStep.l10 k 0 0 a0) else (some (-1)))
def impl_WorstStep.c : FnD := { f := 118, sh := false, ps := [.agg T27], pb := [], vc := .c (.int .i64), bs := [], R := Int, fn := fun k x y => impl_WorstStep.f k x.1, out := fun y => (y, ()), inn := fun d => d.1, inv := fun _ => rfl }
theorem impl_WorstStep.ok : impl_WorstStep.c.OK Tryz.prog :=
  FnD.of impl_WorstStep.c mix tok (fn := Tryz.f118) Tryz.func118 (by kernel_rfl) (fun _ _ => by kernel_rfl) (by kernel_rfl) (by kernel_rfl) [impl_areCosts.c, impl_opCost.c, impl_accessCost.c] ⟨impl_areCosts.ok, ⟨impl_opCost.ok, ⟨impl_accessCost.ok, trivial⟩⟩⟩
    [{ lbl := 10, live := [(1, none), (3, none), (8, none)], ms := [], vs := [.c (.ptr 0 0), .c (.int .i64), .c (.int .i64)], bs := [.cells 27 [.int .i64, .int .i64, .int .i64, .int .i64, .int .i64, .int .i64, .int .i64]], f := fun k x y => impl_WorstStep.l10 k x.2.1 x.2.2.1 (y.1.1, y.1.2.1, y.1.2.2.1, y.1.2.2.2.1, y.1.2.2.2.2.1, y.1.2.2.2.2.2.1, y.1.2.2.2.2.2.2.1) }] { c := fun _ => none, cc := [], ms := [], tn := [], sh := false, fm := [] } rfl 5000 ⟨⟨fun _ _ => rfl, fun k x y => by kernel_rfl⟩, trivial⟩ (fun k x y => by kernel_rfl)

/-! ### loop.example/g00076/impl.worstStep: function 73 -/
def impl_worstStep.f (k : Nat) (a0 : S27) : Option (Int) := (impl_WorstStep.f k a0).bind fun t1 => (some t1)
def impl_worstStep.c : FnD := { f := 73, sh := false, ps := [.agg T27], pb := [], vc := .c (.int .i64), bs := [], R := Int, fn := fun k x y => impl_worstStep.f k x.1, out := fun y => (y, ()), inn := fun d => d.1, inv := fun _ => rfl }
theorem impl_worstStep.ok : impl_worstStep.c.OK Tryz.prog :=
  FnD.of impl_worstStep.c mix tok (fn := Tryz.f73) Tryz.func73 (by kernel_rfl) (fun _ _ => by kernel_rfl) (by kernel_rfl) (by kernel_rfl) [impl_WorstStep.c] ⟨impl_WorstStep.ok, trivial⟩
    [] { c := fun _ => none, cc := [], ms := [], tn := [], sh := false, fm := [] } rfl 5000 trivial (fun k x y => by kernel_rfl)

/-! ### loop.example/g00076/impl.isLabel: function 164 -/
def impl_isLabel.l4 : Nat → ByteArray → Int → Int → Option (Bool)
  | 0, _, _, _ => none
  | k + 1, x0, x5, x6 => if x6 < x5 then (if 0 ≤ x6 then (if x6 < (x0.size : Int) then (if (bt x0 x6) < 97 then (some false) else (if 0 ≤ x6 then (if x6 < (x0.size : Int) then (if (bt x0 x6) > 122 then (some false) else (impl_isLabel.l4 k x0 x5 (wrap64 (x6 + 1)))) else none) else none)) else none) else none) else ((impl_within.f (x0.size : Int) 1 12).bind fun t1 => (some t1))
def impl_isLabel.f (k : Nat) (a0 : ByteArray) : Option (Bool) := impl_isLabel.l4 k a0 (a0.size : Int) 0
def impl_isLabel.c : FnD := { f := 164, sh := false, ps := [.c .str], pb := [], vc := .c (.bool), bs := [], R := Bool, fn := fun k x y => impl_isLabel.f k x.1, out := fun y => (y, ()), inn := fun d => d.1, inv := fun _ => rfl }
theorem impl_isLabel.ok : impl_isLabel.c.OK Tryz.prog :=
  FnD.of impl_isLabel.c mix tok (fn := Tryz.f164) Tryz.func164 (by kernel_rfl) (fun _ _ => by kernel_rfl) (by kernel_rfl) (by kernel_rfl) [impl_within.c] ⟨impl_within.ok, trivial⟩
    [{ lbl := 4, live := [(0, none), (5, none), (6, none)], ms := [], vs := [.c (.str), .c (.int .i64), .c (.int .i64)], bs := [], f := fun k x y => impl_isLabel.l4 k x.1 x.2.1 x.2.2.1 }] { c := fun _ => none, cc := [], ms := [], tn := [], sh := false, fm := [] } rfl 5000 ⟨⟨fun _ _ => rfl, fun k x y => by kernel_rfl⟩, trivial⟩ (fun k x y => by kernel_rfl)

/-! ### loop.example/g00076/impl.isName: function 119 -/
def impl_isName.f (k : Nat) (a0 : ByteArray) : Option (Bool) := (impl_isLabel.f k a0).bind fun t1 => (if t1 = true then (some (decide ((a0.size : Int) ≤ 8))) else (some false))
def impl_isName.c : FnD := { f := 119, sh := false, ps := [.c .str], pb := [], vc := .c (.bool), bs := [], R := Bool, fn := fun k x y => impl_isName.f k x.1, out := fun y => (y, ()), inn := fun d => d.1, inv := fun _ => rfl }
theorem impl_isName.ok : impl_isName.c.OK Tryz.prog :=
  FnD.of impl_isName.c mix tok (fn := Tryz.f119) Tryz.func119 (by kernel_rfl) (fun _ _ => by kernel_rfl) (by kernel_rfl) (by kernel_rfl) [impl_isLabel.c] ⟨impl_isLabel.ok, trivial⟩
    [] { c := fun _ => none, cc := [], ms := [], tn := [], sh := false, fm := [] } rfl 5000 trivial (fun k x y => by kernel_rfl)

/-! ### loop.example/g00076/impl.partNamed$1: function 148 -/
def impl_partNamed_1.f (a0 : S71) (c1 : ByteArray) : Option (Bool) := some (decide (a0.f0 = c1))
def impl_partNamed_1.c : FnD := { f := 148, sh := false, ps := [.agg T71, .cap .str], pb := [], vc := .c (.bool), bs := [], R := Bool, fn := fun _ x y => impl_partNamed_1.f x.1 x.2.1, out := fun y => (y, ()), inn := fun d => d.1, inv := fun _ => rfl }
theorem impl_partNamed_1.ok : impl_partNamed_1.c.OK Tryz.prog :=
  FnD.of impl_partNamed_1.c mix tok (fn := Tryz.f148) Tryz.func148 (by kernel_rfl) (fun _ _ => by kernel_rfl) (by kernel_rfl) (by kernel_rfl) [] trivial
    [] { c := fun _ => none, cc := [], ms := [], tn := [], sh := false, fm := [] } rfl 5000 trivial (fun k x y => by kernel_rfl)

/-! ### slices.IndexFunc[[]loop.example/g00076/impl.PartRow,loop.example/g00076/impl.PartRow]: function 147 -/
def slices_IndexFunc_147_148.l4 : Nat → (List S71) → ByteArray → Int → Int → Option (Int)
  | 0, _, _, _, _ => none
  | k + 1, x0, x1_0, x7, x8 => if x8 < x7 then (if 0 ≤ x8 then (if x8 < (x0.length : Int) then ((impl_partNamed_1.f (rd_T71 x0 x8) x1_0).bind fun t1 => (if t1 = true then (some x8) else (slices_IndexFunc_147_148.l4 k x0 x1_0 x7 (wrap64 (x8 + 1))))) else none) else none) else (some (-1))
def slices_IndexFunc_147_148.f (k : Nat) (a0 : List S71) (p1_0 : ByteArray) : Option (Int) := slices_IndexFunc_147_148.l4 k a0 p1_0 (a0.length : Int) 0
def slices_IndexFunc_147_148.c : FnD := { f := 147, sh := false, ps := [.c (.sl T71), .fn 148 [.str]], pb := [], vc := .c (.int .i64), bs := [], R := Int, fn := fun k x y => slices_IndexFunc_147_148.f k x.1 x.2.1.1, out := fun y => (y, ()), inn := fun d => d.1, inv := fun _ => rfl }
theorem slices_IndexFunc_147_148.ok : slices_IndexFunc_147_148.c.OK Tryz.prog :=
  FnD.of slices_IndexFunc_147_148.c mix tok (fn := Tryz.f147) Tryz.func147 (by kernel_rfl) (fun _ _ => by kernel_rfl) (by kernel_rfl) (by kernel_rfl) [impl_partNamed_1.c] ⟨impl_partNamed_1.ok, trivial⟩
    [{ lbl := 4, live := [(0, none), (1, none), (7, none), (8, none)], ms := [], vs := [.c (.sl false T71), .c (.fn 148 [.str]), .c (.int .i64), .c (.int .i64)], bs := [], f := fun k x y => slices_IndexFunc_147_148.l4 k x.1 x.2.1.1 x.2.2.1 x.2.2.2.1 }] { c := fun _ => none, cc := [], ms := [], tn := [], sh := false, fm := [] } rfl 5000 ⟨⟨fun _ _ => rfl, fun k x y => by kernel_rfl⟩, trivial⟩ (fun k x y => by kernel_rfl)

/-! ### loop.example/g00076/impl.partNamed: function 97 -/
def impl_partNamed.f (k : Nat) (a0 : S33) (a1 : ByteArray) : Option (Int) := (slices_IndexFunc_147_148.f k a0.f7 a1).bind fun t1 => (some t1)
def impl_partNamed.c : FnD := { f := 97, sh := false, ps := [.agg T33, .c .str], pb := [], vc := .c (.int .i64), bs := [], R := Int, fn := fun k x y => impl_partNamed.f k x.1 x.2.1, out := fun y => (y, ()), inn := fun d => d.1, inv := fun _ => rfl }
theorem impl_partNamed.ok : impl_partNamed.c.OK Tryz.prog :=
  FnD.of impl_partNamed.c mix tok (fn := Tryz.f97) Tryz.func97 (by kernel_rfl) (fun _ _ => by kernel_rfl) (by kernel_rfl) (by kernel_rfl) [slices_IndexFunc_147_148.c] ⟨slices_IndexFunc_147_148.ok, trivial⟩
    [] { c := fun _ => none, cc := [], ms := [], tn := [], sh := false, fm := [] } rfl 5000 trivial (fun k x y => by kernel_rfl)

/-! ### loop.example/g00076/impl.isPolicy: function 120 -/
def impl_isPolicy.f (a0 : S68) : Option (Bool) := if a0.f0 = 1 then ((impl_within.f a0.f1 0 100).bind fun t1 => (some t1)) else (if a0.f0 = 0 then (some (decide (a0.f1 = 0))) else (if a0.f0 = 2 then (some (decide (a0.f1 = 0))) else (some false)))
def impl_isPolicy.c : FnD := { f := 120, sh := false, ps := [.agg T68], pb := [], vc := .c (.bool), bs := [], R := Bool, fn := fun _ x y => impl_isPolicy.f x.1, out := fun y => (y, ()), inn := fun d => d.1, inv := fun _ => rfl }
theorem impl_isPolicy.ok : impl_isPolicy.c.OK Tryz.prog :=
  FnD.of impl_isPolicy.c mix tok (fn := Tryz.f120) Tryz.func120 (by kernel_rfl) (fun _ _ => by kernel_rfl) (by kernel_rfl) (by kernel_rfl) [impl_within.c] ⟨impl_within.ok, trivial⟩
    [] { c := fun _ => none, cc := [], ms := [], tn := [], sh := false, fm := [] } rfl 5000 trivial (fun k x y => by kernel_rfl)

/-! ### loop.example/g00076/impl.isWindow: function 121 -/
def impl_isWindow.f (a0 : S66) : Option (Bool) := (impl_within.f a0.f1 4 2048).bind fun t1 => (if t1 = true then (if (Int.tmod a0.f1 4) = 0 then ((impl_within.f a0.f0 0 (wrap64 (2048 - a0.f1))).bind fun t2 => (if t2 = true then (if (Int.tmod a0.f0 4) = 0 then ((impl_within.f a0.f2 1 7).bind fun t3 => (some t3)) else (some false)) else (some false))) else (some false)) else (some false))
def impl_isWindow.c : FnD := { f := 121, sh := false, ps := [.agg T66], pb := [], vc := .c (.bool), bs := [], R := Bool, fn := fun _ x y => impl_isWindow.f x.1, out := fun y => (y, ()), inn := fun d => d.1, inv := fun _ => rfl }
theorem impl_isWindow.ok : impl_isWindow.c.OK Tryz.prog :=
  FnD.of impl_isWindow.c mix tok (fn := Tryz.f121) Tryz.func121 (by kernel_rfl) (fun _ _ => by kernel_rfl) (by kernel_rfl) (by kernel_rfl) [impl_within.c] ⟨impl_within.ok, trivial⟩
    [] { c := fun _ => none, cc := [], ms := [], tn := [], sh := false, fm := [] } rfl 5000 trivial (fun k x y => by kernel_rfl)

/-! ### loop.example/g00076/impl.areApart: function 124 -/
def impl_areApart.f (a0 : S66) (a1 : S66) : Option (Bool) := if (wrap64 (a0.f0 + a0.f1)) ≤ a1.f0 then (some true) else (some (decide ((wrap64 (a1.f0 + a1.f1)) ≤ a0.f0)))
def impl_areApart.c : FnD := { f := 124, sh := false, ps := [.agg T66, .agg T66], pb := [], vc := .c (.bool), bs := [], R := Bool, fn := fun _ x y => impl_areApart.f x.1 x.2.1, out := fun y => (y, ()), inn := fun d => d.1, inv := fun _ => rfl }
theorem impl_areApart.ok : impl_areApart.c.OK Tryz.prog :=
  FnD.of impl_areApart.c mix tok (fn := Tryz.f124) Tryz.func124 (by kernel_rfl) (fun _ _ => by kernel_rfl) (by kernel_rfl) (by kernel_rfl) [] trivial
    [] { c := fun _ => none, cc := [], ms := [], tn := [], sh := false, fm := [] } rfl 5000 trivial (fun k x y => by kernel_rfl)

/-! ### loop.example/g00076/impl.areParts$1: function 123 -/
def impl_areParts_1.f (a0 : S66) (c1 : S66) : Option (Bool) := (impl_areApart.f a0 c1).bind fun t1 => (some (!t1))
def impl_areParts_1.c : FnD := { f := 123, sh := false, ps := [.agg T66, .cap T66], pb := [], vc := .c (.bool), bs := [], R := Bool, fn := fun _ x y => impl_areParts_1.f x.1 x.2.1, out := fun y => (y, ()), inn := fun d => d.1, inv := fun _ => rfl }
theorem impl_areParts_1.ok : impl_areParts_1.c.OK Tryz.prog :=
  FnD.of impl_areParts_1.c mix tok (fn := Tryz.f123) Tryz.func123 (by kernel_rfl) (fun _ _ => by kernel_rfl) (by kernel_rfl) (by kernel_rfl) [impl_areApart.c] ⟨impl_areApart.ok, trivial⟩
    [] { c := fun _ => none, cc := [], ms := [], tn := [], sh := false, fm := [] } rfl 5000 trivial (fun k x y => by kernel_rfl)

/-! ### slices.IndexFunc[[]loop.example/g00076/impl.Window,loop.example/g00076/impl.Window]: function 165 -/
def slices_IndexFunc_165_123.l4 : Nat → (List S66) → S66 → Int → Int → Option (Int)
  | 0, _, _, _, _ => none
  | k + 1, x0, x1_0, x7, x8 => if x8 < x7 then (if 0 ≤ x8 then (if x8 < (x0.length : Int) then ((impl_areParts_1.f (rd_T66 x0 x8) x1_0).bind fun t1 => (if t1 = true then (some x8) else (slices_IndexFunc_165_123.l4 k x0 x1_0 x7 (wrap64 (x8 + 1))))) else none) else none) else (some (-1))
def slices_IndexFunc_165_123.f (k : Nat) (a0 : List S66) (p1_0 : S66) : Option (Int) := slices_IndexFunc_165_123.l4 k a0 p1_0 (a0.length : Int) 0
def slices_IndexFunc_165_123.c : FnD := { f := 165, sh := false, ps := [.c (.sl T66), .fn 123 [T66]], pb := [], vc := .c (.int .i64), bs := [], R := Int, fn := fun k x y => slices_IndexFunc_165_123.f k x.1 x.2.1.1, out := fun y => (y, ()), inn := fun d => d.1, inv := fun _ => rfl }
theorem slices_IndexFunc_165_123.ok : slices_IndexFunc_165_123.c.OK Tryz.prog :=
  FnD.of slices_IndexFunc_165_123.c mix tok (fn := Tryz.f165) Tryz.func165 (by kernel_rfl) (fun _ _ => by kernel_rfl) (by kernel_rfl) (by kernel_rfl) [impl_areParts_1.c] ⟨impl_areParts_1.ok, trivial⟩
    [{ lbl := 4, live := [(0, none), (1, none), (7, none), (8, none)], ms := [], vs := [.c (.sl false T66), .c (.fn 123 [T66]), .c (.int .i64), .c (.int .i64)], bs := [], f := fun k x y => slices_IndexFunc_165_123.l4 k x.1 x.2.1.1 x.2.2.1 x.2.2.2.1 }] { c := fun _ => none, cc := [], ms := [], tn := [], sh := false, fm := [] } rfl 5000 ⟨⟨fun _ _ => rfl, fun k x y => by kernel_rfl⟩, trivial⟩ (fun k x y => by kernel_rfl)

/-! ### slices.ContainsFunc[[]loop.example/g00076/impl.Window,loop.example/g00076/impl.Window]: function 122 -/
def slices_ContainsFunc_122_123.f (k : Nat) (a0 : List S66) (p1_0 : S66) : Option (Bool) := (slices_IndexFunc_165_123.f k a0 p1_0).bind fun t1 => (some (decide (t1 ≥ 0)))
def slices_ContainsFunc_122_123.c : FnD := { f := 122, sh := false, ps := [.c (.sl T66), .fn 123 [T66]], pb := [], vc := .c (.bool), bs := [], R := Bool, fn := fun k x y => slices_ContainsFunc_122_123.f k x.1 x.2.1.1, out := fun y => (y, ()), inn := fun d => d.1, inv := fun _ => rfl }
theorem slices_ContainsFunc_122_123.ok : slices_ContainsFunc_122_123.c.OK Tryz.prog :=
  FnD.of slices_ContainsFunc_122_123.c mix tok (fn := Tryz.f122) Tryz.func122 (by kernel_rfl) (fun _ _ => by kernel_rfl) (by kernel_rfl) (by kernel_rfl) [slices_IndexFunc_165_123.c] ⟨slices_IndexFunc_165_123.ok, trivial⟩
    [] { c := fun _ => none, cc := [], ms := [], tn := [], sh := false, fm := [] } rfl 5000 trivial (fun k x y => by kernel_rfl)

/-! ### loop.example/g00076/impl.windowAt$1: function 194 -/
def impl_windowAt_1.f (a0 : S66) (c1 : Int) : Option (Bool) := if a0.f0 ≤ c1 then (some (decide (c1 < (wrap64 (a0.f0 + a0.f1))))) else (some false)
def impl_windowAt_1.c : FnD := { f := 194, sh := false, ps := [.agg T66, .cap (.int .i64)], pb := [], vc := .c (.bool), bs := [], R := Bool, fn := fun _ x y => impl_windowAt_1.f x.1 x.2.1, out := fun y => (y, ()), inn := fun d => d.1, inv := fun _ => rfl }
theorem impl_windowAt_1.ok : impl_windowAt_1.c.OK Tryz.prog :=
  FnD.of impl_windowAt_1.c mix tok (fn := Tryz.f194) Tryz.func194 (by kernel_rfl) (fun _ _ => by kernel_rfl) (by kernel_rfl) (by kernel_rfl) [] trivial
    [] { c := fun _ => none, cc := [], ms := [], tn := [], sh := false, fm := [] } rfl 5000 trivial (fun k x y => by kernel_rfl)

/-! ### slices.IndexFunc[[]loop.example/g00076/impl.Window,loop.example/g00076/impl.Window]: function 165 -/
def slices_IndexFunc_165_194.l4 : Nat → (List S66) → Int → Int → Int → Option (Int)
  | 0, _, _, _, _ => none
  | k + 1, x0, x1_0, x7, x8 => if x8 < x7 then (if 0 ≤ x8 then (if x8 < (x0.length : Int) then ((impl_windowAt_1.f (rd_T66 x0 x8) x1_0).bind fun t1 => (if t1 = true then (some x8) else (slices_IndexFunc_165_194.l4 k x0 x1_0 x7 (wrap64 (x8 + 1))))) else none) else none) else (some (-1))
def slices_IndexFunc_165_194.f (k : Nat) (a0 : List S66) (p1_0 : Int) : Option (Int) := slices_IndexFunc_165_194.l4 k a0 p1_0 (a0.length : Int) 0
def slices_IndexFunc_165_194.c : FnD := { f := 165, sh := false, ps := [.c (.sl T66), .fn 194 [(.int .i64)]], pb := [], vc := .c (.int .i64), bs := [], R := Int, fn := fun k x y => slices_IndexFunc_165_194.f k x.1 x.2.1.1, out := fun y => (y, ()), inn := fun d => d.1, inv := fun _ => rfl }
theorem slices_IndexFunc_165_194.ok : slices_IndexFunc_165_194.c.OK Tryz.prog :=
  FnD.of slices_IndexFunc_165_194.c mix tok (fn := Tryz.f165) Tryz.func165 (by kernel_rfl) (fun _ _ => by kernel_rfl) (by kernel_rfl) (by kernel_rfl) [impl_windowAt_1.c] ⟨impl_windowAt_1.ok, trivial⟩
    [{ lbl := 4, live := [(0, none), (1, none), (7, none), (8, none)], ms := [], vs := [.c (.sl false T66), .c (.fn 194 [(.int .i64)]), .c (.int .i64), .c (.int .i64)], bs := [], f := fun k x y => slices_IndexFunc_165_194.l4 k x.1 x.2.1.1 x.2.2.1 x.2.2.2.1 }] { c := fun _ => none, cc := [], ms := [], tn := [], sh := false, fm := [] } rfl 5000 ⟨⟨fun _ _ => rfl, fun k x y => by kernel_rfl⟩, trivial⟩ (fun k x y => by kernel_rfl)

/-! ### loop.example/g00076/impl.windowAt: function 166 -/
def impl_windowAt.f (k : Nat) (a0 : List S66) (a1 : Int) : Option (Int) := (slices_IndexFunc_165_194.f k a0 a1).bind fun t1 => (some t1)
def impl_windowAt.c : FnD := { f := 166, sh := false, ps := [.c (.sl T66), .c (.int .i64)], pb := [], vc := .c (.int .i64), bs := [], R := Int, fn := fun k x y => impl_windowAt.f k x.1 x.2.1, out := fun y => (y, ()), inn := fun d => d.1, inv := fun _ => rfl }
theorem impl_windowAt.ok : impl_windowAt.c.OK Tryz.prog :=
  FnD.of impl_windowAt.c mix tok (fn := Tryz.f166) Tryz.func166 (by kernel_rfl) (fun _ _ => by kernel_rfl) (by kernel_rfl) (by kernel_rfl) [slices_IndexFunc_165_194.c] ⟨slices_IndexFunc_165_194.ok, trivial⟩
    [] { c := fun _ => none, cc := [], ms := [], tn := [], sh := false, fm := [] } rfl 5000 trivial (fun k x y => by kernel_rfl)

/-! ### loop.example/g00076/impl.runsAt: function 125 -/
def impl_runsAt.f (k : Nat) (a0 : S71) (a1 : Int) : Option (Bool) := (impl_windowAt.f k a0.f3 a1).bind fun t1 => (if t1 ≥ 0 then (if 0 ≤ t1 then (if t1 < (a0.f3.length : Int) then (some (!(decide ((bitAnd .i64 ((rd_T66 a0.f3 t1).f2) 4) = 0)))) else none) else none) else (some false))
def impl_runsAt.c : FnD := { f := 125, sh := false, ps := [.agg T71, .c (.int .i64)], pb := [], vc := .c (.bool), bs := [], R := Bool, fn := fun k x y => impl_runsAt.f k x.1 x.2.1, out := fun y => (y, ()), inn := fun d => d.1, inv := fun _ => rfl }
theorem impl_runsAt.ok : impl_runsAt.c.OK Tryz.prog :=
  FnD.of impl_runsAt.c mix tok (fn := Tryz.f125) Tryz.func125 (by kernel_rfl) (fun _ _ => by kernel_rfl) (by kernel_rfl) (by kernel_rfl) [impl_windowAt.c] ⟨impl_windowAt.ok, trivial⟩
    [] { c := fun _ => none, cc := [], ms := [], tn := [], sh := false, fm := [] } rfl 5000 trivial (fun k x y => by kernel_rfl)

/-! ### loop.example/g00076/impl.areParts: function 74 -/
mutual
def impl_areParts.l6 : Nat → (List S71) → Int → Int → S33 → (List S66) → Option (Bool)
  | 0, _, _, _, _, _ => none
  | k + 1, x9, x10, x11, y0, h1 => if x11 < x10 then (if 0 ≤ x11 then (if x11 < (x9.length : Int) then ((impl_isName.f k ((rd_T71 x9 x11).f0)).bind fun t1 => (if t1 = true then ((impl_partNamed.f k y0 ((rd_T71 x9 x11).f0)).bind fun t2 => (if t2 < x11 then (some false) else ((impl_isPolicy.f ((rd_T71 x9 x11).f2)).bind fun t3 => (if t3 = true then ((impl_within.f (((rd_T71 x9 x11).f3).length : Int) 1 4).bind fun t4 => (if t4 = true then (impl_areParts.l16 k x9 x10 x11 ((rd_T71 x9 x11).f3) (((rd_T71 x9 x11).f3).length : Int) 0 y0 h1 (rd_T71 x9 x11)) else (some false))) else (some false))))) else (some false))) else none) else none) else (some true)
def impl_areParts.l16 : Nat → (List S71) → Int → Int → (List S66) → Int → Int → S33 → (List S66) → S71 → Option (Bool)
  | 0, _, _, _, _, _, _, _, _, _ => none
  | k + 1, x9, x10, x11, x42, x43, x44, y0, h1, y2 => if x44 < x43 then (if 0 ≤ x44 then (if x44 < (x42.length : Int) then ((impl_isWindow.f (rd_T66 x42 x44)).bind fun t5 => (if t5 = true then (if (wrap64 (((rd_T66 x42 x44).f0) + ((rd_T66 x42 x44).f1))) > y0.f0 then (some false) else ((slices_ContainsFunc_122_123.f k h1 (rd_T66 x42 x44)).bind fun t6 => (if t6 = true then (some false) else (if h1.length + ([(rd_T66 x42 x44)] : List S66).length < 5864062014805 then (impl_areParts.l16 k x9 x10 x11 x42 x43 (wrap64 (x44 + 1)) y0 (h1 ++ ([(rd_T66 x42 x44)] : List S66)) y2) else none)))) else (some false))) else none) else none) else (if (Int.tmod y2.f1 4) = 0 then ((impl_runsAt.f k y2 y2.f1).bind fun t7 => (if t7 = true then (impl_areParts.l6 k x9 x10 (wrap64 (x11 + 1)) y0 h1) else (some false))) else (some false))
end
def impl_areParts.f (k : Nat) (a0 : S33) : Option (Bool) := impl_areParts.l6 k a0.f7 (a0.f7.length : Int) 0 a0 ([] : List S66)
def impl_areParts.c : FnD := { f := 74, sh := false, ps := [.agg T33], pb := [], vc := .c (.bool), bs := [], R := Bool, fn := fun k x y => impl_areParts.f k x.1, out := fun y => (y, ()), inn := fun d => d.1, inv := fun _ => rfl }
theorem impl_areParts.ok : impl_areParts.c.OK Tryz.prog :=
  FnD.of impl_areParts.c mix tok (fn := Tryz.f74) Tryz.func74 (by kernel_rfl) (fun _ _ => by kernel_rfl) (by kernel_rfl) (by kernel_rfl) [impl_isName.c, impl_partNamed.c, impl_isPolicy.c, impl_within.c, impl_isWindow.c, slices_ContainsFunc_122_123.c, impl_runsAt.c] ⟨impl_isName.ok, ⟨impl_partNamed.ok, ⟨impl_isPolicy.ok, ⟨impl_within.ok, ⟨impl_isWindow.ok, ⟨slices_ContainsFunc_122_123.ok, ⟨impl_runsAt.ok, trivial⟩⟩⟩⟩⟩⟩⟩
    [{ lbl := 6, live := [(1, none), (3, some (.row T66)), (9, none), (10, none), (11, none)], ms := [], vs := [.c (.ptr 0 0), .c (.own 1), .c (.sl false T71), .c (.int .i64), .c (.int .i64)], bs := [.cells 33 [.int .i64, .int .i64, .int .i64, .int .i64, .int .i64, .int .i64, .int .i64, .int .i64, .int .i64, .int .i64, .int .i64, .int .i64, .int .i64, .int .i64, .int .i64, .sl false T71, .sl false (.int .i64), .sl false T77, .sl false T182], .arr T66 .un], f := fun k x y => impl_areParts.l6 k x.2.2.1 x.2.2.2.1 x.2.2.2.2.1 (y.1.1, (y.1.2.1, y.1.2.2.1, y.1.2.2.2.1), y.1.2.2.2.2.1, (y.1.2.2.2.2.2.1, y.1.2.2.2.2.2.2.1, y.1.2.2.2.2.2.2.2.1, y.1.2.2.2.2.2.2.2.2.1, y.1.2.2.2.2.2.2.2.2.2.1, y.1.2.2.2.2.2.2.2.2.2.2.1, y.1.2.2.2.2.2.2.2.2.2.2.2.1), y.1.2.2.2.2.2.2.2.2.2.2.2.2.1, y.1.2.2.2.2.2.2.2.2.2.2.2.2.2.1, y.1.2.2.2.2.2.2.2.2.2.2.2.2.2.2.1, y.1.2.2.2.2.2.2.2.2.2.2.2.2.2.2.2.1, y.1.2.2.2.2.2.2.2.2.2.2.2.2.2.2.2.2.1, y.1.2.2.2.2.2.2.2.2.2.2.2.2.2.2.2.2.2.1, y.1.2.2.2.2.2.2.2.2.2.2.2.2.2.2.2.2.2.2.1) y.2.1 },
      { lbl := 16, live := [(1, none), (3, some (.row T66)), (5, none), (9, none), (10, none), (11, none), (42, none), (43, none), (44, none)], ms := [], vs := [.c (.ptr 0 0), .c (.own 1), .c (.ptr 2 0), .c (.sl false T71), .c (.int .i64), .c (.int .i64), .c (.sl false T66), .c (.int .i64), .c (.int .i64)], bs := [.cells 33 [.int .i64, .int .i64, .int .i64, .int .i64, .int .i64, .int .i64, .int .i64, .int .i64, .int .i64, .int .i64, .int .i64, .int .i64, .int .i64, .int .i64, .int .i64, .sl false T71, .sl false (.int .i64), .sl false T77, .sl false T182], .arr T66 .un, .cells 71 [.str, .int .i64, .int .i64, .int .i64, .sl false T66]], f := fun k x y => impl_areParts.l16 k x.2.2.2.1 x.2.2.2.2.1 x.2.2.2.2.2.1 x.2.2.2.2.2.2.1 x.2.2.2.2.2.2.2.1 x.2.2.2.2.2.2.2.2.1 (y.1.1, (y.1.2.1, y.1.2.2.1, y.1.2.2.2.1), y.1.2.2.2.2.1, (y.1.2.2.2.2.2.1, y.1.2.2.2.2.2.2.1, y.1.2.2.2.2.2.2.2.1, y.1.2.2.2.2.2.2.2.2.1, y.1.2.2.2.2.2.2.2.2.2.1, y.1.2.2.2.2.2.2.2.2.2.2.1, y.1.2.2.2.2.2.2.2.2.2.2.2.1), y.1.2.2.2.2.2.2.2.2.2.2.2.2.1, y.1.2.2.2.2.2.2.2.2.2.2.2.2.2.1, y.1.2.2.2.2.2.2.2.2.2.2.2.2.2.2.1, y.1.2.2.2.2.2.2.2.2.2.2.2.2.2.2.2.1, y.1.2.2.2.2.2.2.2.2.2.2.2.2.2.2.2.2.1, y.1.2.2.2.2.2.2.2.2.2.2.2.2.2.2.2.2.2.1, y.1.2.2.2.2.2.2.2.2.2.2.2.2.2.2.2.2.2.2.1) y.2.1 (y.2.2.1.1, y.2.2.1.2.1, (y.2.2.1.2.2.1, y.2.2.1.2.2.2.1), y.2.2.1.2.2.2.2.1) }] { c := fun _ => none, cc := [], ms := [], tn := [], sh := false, fm := [] } rfl 5000 ⟨⟨fun _ _ => rfl, fun k x y => by kernel_rfl⟩, ⟨⟨fun _ _ => rfl, fun k x y => by kernel_rfl⟩, trivial⟩⟩ (fun k x y => by kernel_rfl)

/-! ### loop.example/g00076/impl.isSound$1: function 76 -/
def impl_isSound_1.f (a0 : Int) (c1 : Int) : Option (Bool) := (impl_within.f a0 0 (wrap64 (c1 - 1))).bind fun t1 => (some (!t1))
def impl_isSound_1.c : FnD := { f := 76, sh := false, ps := [.c (.int .i64), .cap (.int .i64)], pb := [], vc := .c (.bool), bs := [], R := Bool, fn := fun _ x y => impl_isSound_1.f x.1 x.2.1, out := fun y => (y, ()), inn := fun d => d.1, inv := fun _ => rfl }
theorem impl_isSound_1.ok : impl_isSound_1.c.OK Tryz.prog :=
  FnD.of impl_isSound_1.c mix tok (fn := Tryz.f76) Tryz.func76 (by kernel_rfl) (fun _ _ => by kernel_rfl) (by kernel_rfl) (by kernel_rfl) [impl_within.c] ⟨impl_within.ok, trivial⟩
    [] { c := fun _ => none, cc := [], ms := [], tn := [], sh := false, fm := [] } rfl 5000 trivial (fun k x y => by kernel_rfl)

/-! ### slices.IndexFunc[[]int,int]: function 126 -/
def slices_IndexFunc_126_76.l4 : Nat → (List Int) → Int → Int → Int → Option (Int)
  | 0, _, _, _, _ => none
  | k + 1, x0, x1_0, x7, x8 => if x8 < x7 then (if 0 ≤ x8 then (if x8 < (x0.length : Int) then ((impl_isSound_1.f (rd x0 x8) x1_0).bind fun t1 => (if t1 = true then (some x8) else (slices_IndexFunc_126_76.l4 k x0 x1_0 x7 (wrap64 (x8 + 1))))) else none) else none) else (some (-1))
def slices_IndexFunc_126_76.f (k : Nat) (a0 : List Int) (p1_0 : Int) : Option (Int) := slices_IndexFunc_126_76.l4 k a0 p1_0 (a0.length : Int) 0
def slices_IndexFunc_126_76.c : FnD := { f := 126, sh := false, ps := [.c (.sl (.int .i64)), .fn 76 [(.int .i64)]], pb := [], vc := .c (.int .i64), bs := [], R := Int, fn := fun k x y => slices_IndexFunc_126_76.f k x.1 x.2.1.1, out := fun y => (y, ()), inn := fun d => d.1, inv := fun _ => rfl }
theorem slices_IndexFunc_126_76.ok : slices_IndexFunc_126_76.c.OK Tryz.prog :=
  FnD.of slices_IndexFunc_126_76.c mix tok (fn := Tryz.f126) Tryz.func126 (by kernel_rfl) (fun _ _ => by kernel_rfl) (by kernel_rfl) (by kernel_rfl) [impl_isSound_1.c] ⟨impl_isSound_1.ok, trivial⟩
    [{ lbl := 4, live := [(0, none), (1, none), (7, none), (8, none)], ms := [], vs := [.c (.sl false (.int .i64)), .c (.fn 76 [(.int .i64)]), .c (.int .i64), .c (.int .i64)], bs := [], f := fun k x y => slices_IndexFunc_126_76.l4 k x.1 x.2.1.1 x.2.2.1 x.2.2.2.1 }] { c := fun _ => none, cc := [], ms := [], tn := [], sh := false, fm := [] } rfl 5000 ⟨⟨fun _ _ => rfl, fun k x y => by kernel_rfl⟩, trivial⟩ (fun k x y => by kernel_rfl)

/-! ### slices.ContainsFunc[[]int,int]: function 75 -/
def slices_ContainsFunc_75_76.f (k : Nat) (a0 : List Int) (p1_0 : Int) : Option (Bool) := (slices_IndexFunc_126_76.f k a0 p1_0).bind fun t1 => (some (decide (t1 ≥ 0)))
def slices_ContainsFunc_75_76.c : FnD := { f := 75, sh := false, ps := [.c (.sl (.int .i64)), .fn 76 [(.int .i64)]], pb := [], vc := .c (.bool), bs := [], R := Bool, fn := fun k x y => slices_ContainsFunc_75_76.f k x.1 x.2.1.1, out := fun y => (y, ()), inn := fun d => d.1, inv := fun _ => rfl }
theorem slices_ContainsFunc_75_76.ok : slices_ContainsFunc_75_76.c.OK Tryz.prog :=
  FnD.of slices_ContainsFunc_75_76.c mix tok (fn := Tryz.f75) Tryz.func75 (by kernel_rfl) (fun _ _ => by kernel_rfl) (by kernel_rfl) (by kernel_rfl) [slices_IndexFunc_126_76.c] ⟨slices_IndexFunc_126_76.ok, trivial⟩
    [] { c := fun _ => none, cc := [], ms := [], tn := [], sh := false, fm := [] } rfl 5000 trivial (fun k x y => by kernel_rfl)

/-! ### loop.example/g00076/impl.isChan: function 79 -/
def impl_isChan.f (a0 : S77) : Option (Bool) := (impl_within.f a0.f1 0 5).bind fun t1 => (if t1 = true then ((impl_within.f a0.f2 0 5).bind fun t2 => (if t2 = true then (if a0.f1 = a0.f2 then (some false) else (if a0.f0 = 0 then (if a0.f3 = 0 then (some true) else (if a0.f0 = 1 then ((impl_within.f a0.f3 1 8).bind fun t3 => (some t3)) else (some false))) else (if a0.f0 = 1 then ((impl_within.f a0.f3 1 8).bind fun t4 => (some t4)) else (some false)))) else (some false))) else (some false))
def impl_isChan.c : FnD := { f := 79, sh := false, ps := [.agg T77], pb := [], vc := .c (.bool), bs := [], R := Bool, fn := fun _ x y => impl_isChan.f x.1, out := fun y => (y, ()), inn := fun d => d.1, inv := fun _ => rfl }
theorem impl_isChan.ok : impl_isChan.c.OK Tryz.prog :=
  FnD.of impl_isChan.c mix tok (fn := Tryz.f79) Tryz.func79 (by kernel_rfl) (fun _ _ => by kernel_rfl) (by kernel_rfl) (by kernel_rfl) [impl_within.c] ⟨impl_within.ok, trivial⟩
    [] { c := fun _ => none, cc := [], ms := [], tn := [], sh := false, fm := [] } rfl 5000 trivial (fun k x y => by kernel_rfl)

/-! ### loop.example/g00076/impl.isSound$2: function 78 -/
def impl_isSound_2.f (a0 : S77) (c1 : Int) : Option (Bool) := (impl_isChan.f a0).bind fun t1 => (if t1 = true then (if a0.f1 ≥ c1 then (some true) else (some (decide (a0.f2 ≥ c1)))) else (some true))
def impl_isSound_2.c : FnD := { f := 78, sh := false, ps := [.agg T77, .cap (.int .i64)], pb := [], vc := .c (.bool), bs := [], R := Bool, fn := fun _ x y => impl_isSound_2.f x.1 x.2.1, out := fun y => (y, ()), inn := fun d => d.1, inv := fun _ => rfl }
theorem impl_isSound_2.ok : impl_isSound_2.c.OK Tryz.prog :=
  FnD.of impl_isSound_2.c mix tok (fn := Tryz.f78) Tryz.func78 (by kernel_rfl) (fun _ _ => by kernel_rfl) (by kernel_rfl) (by kernel_rfl) [impl_isChan.c] ⟨impl_isChan.ok, trivial⟩
    [] { c := fun _ => none, cc := [], ms := [], tn := [], sh := false, fm := [] } rfl 5000 trivial (fun k x y => by kernel_rfl)

/-! ### slices.IndexFunc[[]loop.example/g00076/impl.ChanRow,loop.example/g00076/impl.ChanRow]: function 127 -/
def slices_IndexFunc_127_78.l4 : Nat → (List S77) → Int → Int → Int → Option (Int)
  | 0, _, _, _, _ => none
  | k + 1, x0, x1_0, x7, x8 => if x8 < x7 then (if 0 ≤ x8 then (if x8 < (x0.length : Int) then ((impl_isSound_2.f (rd_T77 x0 x8) x1_0).bind fun t1 => (if t1 = true then (some x8) else (slices_IndexFunc_127_78.l4 k x0 x1_0 x7 (wrap64 (x8 + 1))))) else none) else none) else (some (-1))
def slices_IndexFunc_127_78.f (k : Nat) (a0 : List S77) (p1_0 : Int) : Option (Int) := slices_IndexFunc_127_78.l4 k a0 p1_0 (a0.length : Int) 0
def slices_IndexFunc_127_78.c : FnD := { f := 127, sh := false, ps := [.c (.sl T77), .fn 78 [(.int .i64)]], pb := [], vc := .c (.int .i64), bs := [], R := Int, fn := fun k x y => slices_IndexFunc_127_78.f k x.1 x.2.1.1, out := fun y => (y, ()), inn := fun d => d.1, inv := fun _ => rfl }
theorem slices_IndexFunc_127_78.ok : slices_IndexFunc_127_78.c.OK Tryz.prog :=
  FnD.of slices_IndexFunc_127_78.c mix tok (fn := Tryz.f127) Tryz.func127 (by kernel_rfl) (fun _ _ => by kernel_rfl) (by kernel_rfl) (by kernel_rfl) [impl_isSound_2.c] ⟨impl_isSound_2.ok, trivial⟩
    [{ lbl := 4, live := [(0, none), (1, none), (7, none), (8, none)], ms := [], vs := [.c (.sl false T77), .c (.fn 78 [(.int .i64)]), .c (.int .i64), .c (.int .i64)], bs := [], f := fun k x y => slices_IndexFunc_127_78.l4 k x.1 x.2.1.1 x.2.2.1 x.2.2.2.1 }] { c := fun _ => none, cc := [], ms := [], tn := [], sh := false, fm := [] } rfl 5000 ⟨⟨fun _ _ => rfl, fun k x y => by kernel_rfl⟩, trivial⟩ (fun k x y => by kernel_rfl)

/-! ### slices.ContainsFunc[[]loop.example/g00076/impl.ChanRow,loop.example/g00076/impl.ChanRow]: function 77 -/
def slices_ContainsFunc_77_78.f (k : Nat) (a0 : List S77) (p1_0 : Int) : Option (Bool) := (slices_IndexFunc_127_78.f k a0 p1_0).bind fun t1 => (some (decide (t1 ≥ 0)))
def slices_ContainsFunc_77_78.c : FnD := { f := 77, sh := false, ps := [.c (.sl T77), .fn 78 [(.int .i64)]], pb := [], vc := .c (.bool), bs := [], R := Bool, fn := fun k x y => slices_ContainsFunc_77_78.f k x.1 x.2.1.1, out := fun y => (y, ()), inn := fun d => d.1, inv := fun _ => rfl }
theorem slices_ContainsFunc_77_78.ok : slices_ContainsFunc_77_78.c.OK Tryz.prog :=
  FnD.of slices_ContainsFunc_77_78.c mix tok (fn := Tryz.f77) Tryz.func77 (by kernel_rfl) (fun _ _ => by kernel_rfl) (by kernel_rfl) (by kernel_rfl) [slices_IndexFunc_127_78.c] ⟨slices_IndexFunc_127_78.ok, trivial⟩
    [] { c := fun _ => none, cc := [], ms := [], tn := [], sh := false, fm := [] } rfl 5000 trivial (fun k x y => by kernel_rfl)

/-! ### loop.example/g00076/impl.depthOf: function 128 -/
def impl_depthOf.f (a0 : S77) : Option (Int) := some (mx 1 a0.f3)
def impl_depthOf.c : FnD := { f := 128, sh := false, ps := [.agg T77], pb := [], vc := .c (.int .i64), bs := [], R := Int, fn := fun _ x y => impl_depthOf.f x.1, out := fun y => (y, ()), inn := fun d => d.1, inv := fun _ => rfl }
theorem impl_depthOf.ok : impl_depthOf.c.OK Tryz.prog :=
  FnD.of impl_depthOf.c mix tok (fn := Tryz.f128) Tryz.func128 (by kernel_rfl) (fun _ _ => by kernel_rfl) (by kernel_rfl) (by kernel_rfl) [] trivial
    [] { c := fun _ => none, cc := [], ms := [], tn := [], sh := false, fm := [] } rfl 5000 trivial (fun k x y => by kernel_rfl)

/-! ### loop.example/g00076/impl.worstPad: function 80 -/
def impl_worstPad.l6 : Nat → Int → (List S77) → Int → Int → S27 → Option (Int)
  | 0, _, _, _, _, _ => none
  | k + 1, x7, x22, x23, x24, y0 => if x24 < x23 then (if 0 ≤ x24 then (if x24 < (x22.length : Int) then ((impl_depthOf.f (rd_T77 x22 x24)).bind fun t1 => (impl_worstPad.l6 k (wrap64 (x7 + (wrap64 (y0.f0 * t1)))) x22 x23 (wrap64 (x24 + 1)) y0)) else none) else none) else (some x7)
def impl_worstPad.f (k : Nat) (a0 : S27) (a1 : S25) (a2 : List S77) : Option (Int) := impl_worstPad.l6 k (wrap64 ((wrap64 (16 * a0.f0)) + (wrap64 ((wrap64 (a1.f0 * a1.f1)) * a0.f6)))) a2 (a2.length : Int) 0 a0
def impl_worstPad.c : FnD := { f := 80, sh := false, ps := [.agg T27, .agg T25, .c (.sl T77)], pb := [], vc := .c (.int .i64), bs := [], R := Int, fn := fun k x y => impl_worstPad.f k x.1 x.2.1 x.2.2.1, out := fun y => (y, ()), inn := fun d => d.1, inv := fun _ => rfl }
theorem impl_worstPad.ok : impl_worstPad.c.OK Tryz.prog :=
  FnD.of impl_worstPad.c mix tok (fn := Tryz.f80) Tryz.func80 (by kernel_rfl) (fun _ _ => by kernel_rfl) (by kernel_rfl) (by kernel_rfl) [impl_depthOf.c] ⟨impl_depthOf.ok, trivial⟩
    [{ lbl := 6, live := [(3, none), (7, none), (22, none), (23, none), (24, none)], ms := [], vs := [.c (.ptr 0 0), .c (.int .i64), .c (.sl false T77), .c (.int .i64), .c (.int .i64)], bs := [.cells 27 [.int .i64, .int .i64, .int .i64, .int .i64, .int .i64, .int .i64, .int .i64]], f := fun k x y => impl_worstPad.l6 k x.2.1 x.2.2.1 x.2.2.2.1 x.2.2.2.2.1 (y.1.1, y.1.2.1, y.1.2.2.1, y.1.2.2.2.1, y.1.2.2.2.2.1, y.1.2.2.2.2.2.1, y.1.2.2.2.2.2.2.1) }] { c := fun _ => none, cc := [], ms := [], tn := [], sh := false, fm := [] } rfl 5000 ⟨⟨fun _ _ => rfl, fun k x y => by kernel_rfl⟩, trivial⟩ (fun k x y => by kernel_rfl)

/-! ### loop.example/g00076/impl.isSlotAt: function 129 -/
def impl_isSlotAt.f (a0 : S33) (a1 : S182) (a2 : Int) : Option (Bool) := if a1.f2 > (wrap64 (a0.f4 + a0.f5)) then (if a1.f2 ≤ a0.f6 then (if a1.f1 ≥ a2 then (some (decide (a1.f1 ≤ (wrap64 (a0.f6 - a1.f2))))) else (some false)) else (some false)) else (some false)
def impl_isSlotAt.c : FnD := { f := 129, sh := false, ps := [.agg T33, .agg T182, .c (.int .i64)], pb := [], vc := .c (.bool), bs := [], R := Bool, fn := fun _ x y => impl_isSlotAt.f x.1 x.2.1 x.2.2.1, out := fun y => (y, ()), inn := fun d => d.1, inv := fun _ => rfl }
theorem impl_isSlotAt.ok : impl_isSlotAt.c.OK Tryz.prog :=
  FnD.of impl_isSlotAt.c mix tok (fn := Tryz.f129) Tryz.func129 (by kernel_rfl) (fun _ _ => by kernel_rfl) (by kernel_rfl) (by kernel_rfl) [] trivial
    [] { c := fun _ => none, cc := [], ms := [], tn := [], sh := false, fm := [] } rfl 5000 trivial (fun k x y => by kernel_rfl)

/-! ### loop.example/g00076/impl.areSlots: function 81 -/
def impl_areSlots.l6 : Nat → Int → (List S182) → Int → Int → S33 → Option (Bool)
  | 0, _, _, _, _, _ => none
  | k + 1, x3, x7, x8, x9, y0 => if x9 < x8 then (if 0 ≤ x9 then (if x9 < (x7.length : Int) then ((impl_within.f ((rd_T182 x7 x9).f0) 0 (wrap64 ((y0.f7.length : Int) - 1))).bind fun t1 => (if t1 = true then ((impl_isSlotAt.f y0 (rd_T182 x7 x9) x3).bind fun t2 => (if t2 = true then (impl_areSlots.l6 k (wrap64 (((rd_T182 x7 x9).f1) + ((rd_T182 x7 x9).f2))) x7 x8 (wrap64 (x9 + 1)) y0) else (some false))) else (some false))) else none) else none) else ((impl_within.f (y0.f10.length : Int) 1 16).bind fun t3 => (some t3))
def impl_areSlots.f (k : Nat) (a0 : S33) : Option (Bool) := impl_areSlots.l6 k 0 a0.f10 (a0.f10.length : Int) 0 a0
def impl_areSlots.c : FnD := { f := 81, sh := false, ps := [.agg T33], pb := [], vc := .c (.bool), bs := [], R := Bool, fn := fun k x y => impl_areSlots.f k x.1, out := fun y => (y, ()), inn := fun d => d.1, inv := fun _ => rfl }
theorem impl_areSlots.ok : impl_areSlots.c.OK Tryz.prog :=
  FnD.of impl_areSlots.c mix tok (fn := Tryz.f81) Tryz.func81 (by kernel_rfl) (fun _ _ => by kernel_rfl) (by kernel_rfl) (by kernel_rfl) [impl_within.c, impl_isSlotAt.c] ⟨impl_within.ok, ⟨impl_isSlotAt.ok, trivial⟩⟩
    [{ lbl := 6, live := [(1, none), (3, none), (7, none), (8, none), (9, none)], ms := [], vs := [.c (.ptr 0 0), .c (.int .i64), .c (.sl false T182), .c (.int .i64), .c (.int .i64)], bs := [.cells 33 [.int .i64, .int .i64, .int .i64, .int .i64, .int .i64, .int .i64, .int .i64, .int .i64, .int .i64, .int .i64, .int .i64, .int .i64, .int .i64, .int .i64, .int .i64, .sl false T71, .sl false (.int .i64), .sl false T77, .sl false T182]], f := fun k x y => impl_areSlots.l6 k x.2.1 x.2.2.1 x.2.2.2.1 x.2.2.2.2.1 (y.1.1, (y.1.2.1, y.1.2.2.1, y.1.2.2.2.1), y.1.2.2.2.2.1, (y.1.2.2.2.2.2.1, y.1.2.2.2.2.2.2.1, y.1.2.2.2.2.2.2.2.1, y.1.2.2.2.2.2.2.2.2.1, y.1.2.2.2.2.2.2.2.2.2.1, y.1.2.2.2.2.2.2.2.2.2.2.1, y.1.2.2.2.2.2.2.2.2.2.2.2.1), y.1.2.2.2.2.2.2.2.2.2.2.2.2.1, y.1.2.2.2.2.2.2.2.2.2.2.2.2.2.1, y.1.2.2.2.2.2.2.2.2.2.2.2.2.2.2.1, y.1.2.2.2.2.2.2.2.2.2.2.2.2.2.2.2.1, y.1.2.2.2.2.2.2.2.2.2.2.2.2.2.2.2.2.1, y.1.2.2.2.2.2.2.2.2.2.2.2.2.2.2.2.2.2.1, y.1.2.2.2.2.2.2.2.2.2.2.2.2.2.2.2.2.2.2.1) }] { c := fun _ => none, cc := [], ms := [], tn := [], sh := false, fm := [] } rfl 5000 ⟨⟨fun _ _ => rfl, fun k x y => by kernel_rfl⟩, trivial⟩ (fun k x y => by kernel_rfl)

/-! ### loop.example/g00076/impl.isSound: function 25 -/
def impl_isSound.f (k : Nat) (a0 : S33) : Option (Bool) := (impl_isMem.f a0.f0).bind fun t1 => (if t1 = true then ((impl_isShape.f a0.f1).bind fun t2 => (if t2 = true then ((impl_within.f a0.f2 1 8).bind fun t3 => (if t3 = true then ((impl_areCosts.f k a0.f3).bind fun t4 => (if t4 = true then ((impl_isSpan.f a0.f4).bind fun t5 => (if t5 = true then ((impl_isSpan.f a0.f5).bind fun t6 => (if t6 = true then ((impl_isSpan.f a0.f6).bind fun t7 => (if t7 = true then ((impl_worstStep.f k a0.f3).bind fun t8 => (if a0.f5 < t8 then (some false) else ((impl_within.f (a0.f7.length : Int) 1 6).bind fun t9 => (if t9 = true then ((impl_areParts.f k a0).bind fun t10 => (if t10 = true then (if (a0.f8.length : Int) > 8 then (some false) else ((slices_ContainsFunc_75_76.f k a0.f8 (a0.f7.length : Int)).bind fun t11 => (if t11 = true then (some false) else (if (a0.f9.length : Int) > 8 then (some false) else ((slices_ContainsFunc_77_78.f k a0.f9 (a0.f7.length : Int)).bind fun t12 => (if t12 = true then (some false) else ((impl_worstPad.f k a0.f3 a0.f1 a0.f9).bind fun t13 => (if a0.f4 < t13 then (some false) else ((impl_areSlots.f k a0).bind fun t14 => (some t14)))))))))) else (some false))) else (some false))))) else (some false))) else (some false))) else (some false))) else (some false))) else (some false))) else (some false))) else (some false))
def impl_isSound.c : FnD := { f := 25, sh := false, ps := [.agg T33], pb := [], vc := .c (.bool), bs := [], R := Bool, fn := fun k x y => impl_isSound.f k x.1, out := fun y => (y, ()), inn := fun d => d.1, inv := fun _ => rfl }
theorem impl_isSound.ok : impl_isSound.c.OK Tryz.prog :=
  FnD.of impl_isSound.c mix tok (fn := Tryz.f25) Tryz.func25 (by kernel_rfl) (fun _ _ => by kernel_rfl) (by kernel_rfl) (by kernel_rfl) [impl_isMem.c, impl_isShape.c, impl_within.c, impl_areCosts.c, impl_isSpan.c, impl_worstStep.c, impl_areParts.c, slices_ContainsFunc_75_76.c, slices_ContainsFunc_77_78.c, impl_worstPad.c, impl_areSlots.c] ⟨impl_isMem.ok, ⟨impl_isShape.ok, ⟨impl_within.ok, ⟨impl_areCosts.ok, ⟨impl_isSpan.ok, ⟨impl_worstStep.ok, ⟨impl_areParts.ok, ⟨slices_ContainsFunc_75_76.ok, ⟨slices_ContainsFunc_77_78.ok, ⟨impl_worstPad.ok, ⟨impl_areSlots.ok, trivial⟩⟩⟩⟩⟩⟩⟩⟩⟩⟩⟩
    [] { c := fun _ => none, cc := [], ms := [], tn := [], sh := false, fm := [] } rfl 5000 trivial (fun k x y => by kernel_rfl)

/-! ### strconv.Itoa: function 146 (by hand) -/
noncomputable def strconv_Itoa.f (a0 : Int) : Option (ByteArray) := itoaF a0
noncomputable abbrev strconv_Itoa.c : FnD := itoaC
theorem strconv_Itoa.ok : strconv_Itoa.c.OK Tryz.prog := itoaC_ok

/-! ### loop.example/g00076/impl.DecText: function 142 -/
def impl_DecText.f (a0 : Int) : Option (ByteArray) := (strconv_Itoa.f a0).bind fun t1 => (some t1)
def impl_DecText.c : FnD := { f := 142, sh := false, ps := [.c (.int .i64)], pb := [], vc := .c (.str), bs := [], R := ByteArray, fn := fun _ x y => impl_DecText.f x.1, out := fun y => (y, ()), inn := fun d => d.1, inv := fun _ => rfl }
theorem impl_DecText.ok : impl_DecText.c.OK Tryz.prog :=
  FnD.of impl_DecText.c mix tok (fn := Tryz.f142) Tryz.func142 (by kernel_rfl) (fun _ _ => by kernel_rfl) (by kernel_rfl) (by kernel_rfl) [strconv_Itoa.c] ⟨strconv_Itoa.ok, trivial⟩
    [] { c := fun _ => none, cc := [], ms := [], tn := [], sh := false, fm := [] } rfl 5000 trivial (fun k x y => by kernel_rfl)

/-! ### loop.example/g00076/impl.confLine: function 92 -/
def impl_confLine.l4 : Nat → ByteArray → (List Int) → Int → Int → Option (ByteArray)
  | 0, _, _, _, _ => none
  | k + 1, x0, x7, x8, x9 => if x9 < x8 then (if 0 ≤ x9 then (if x9 < (x7.length : Int) then ((impl_DecText.f (rd x7 x9)).bind fun t1 => (if (ByteArray.mk #[32]).size + t1.size ≤ 9223372036854775807 then (if x0.size + ((ByteArray.mk #[32]) ++ t1).size ≤ 9223372036854775807 then (impl_confLine.l4 k (x0 ++ ((ByteArray.mk #[32]) ++ t1)) x7 x8 (wrap64 (x9 + 1))) else none) else none)) else none) else none) else (if x0.size + (ByteArray.mk #[10]).size ≤ 9223372036854775807 then (some (x0 ++ (ByteArray.mk #[10]))) else none)
def impl_confLine.f (k : Nat) (a0 : ByteArray) (a1 : List Int) : Option (ByteArray) := impl_confLine.l4 k a0 a1 (a1.length : Int) 0
def impl_confLine.c : FnD := { f := 92, sh := false, ps := [.c .str, .c (.sl (.int .i64))], pb := [], vc := .c (.str), bs := [], R := ByteArray, fn := fun k x y => impl_confLine.f k x.1 x.2.1, out := fun y => (y, ()), inn := fun d => d.1, inv := fun _ => rfl }
theorem impl_confLine.ok : impl_confLine.c.OK Tryz.prog :=
  FnD.of impl_confLine.c mix tok (fn := Tryz.f92) Tryz.func92 (by kernel_rfl) (fun _ _ => by kernel_rfl) (by kernel_rfl) (by kernel_rfl) [impl_DecText.c] ⟨impl_DecText.ok, trivial⟩
    [{ lbl := 4, live := [(0, none), (7, none), (8, none), (9, none)], ms := [], vs := [.c (.str), .c (.sl false (.int .i64)), .c (.int .i64), .c (.int .i64)], bs := [], f := fun k x y => impl_confLine.l4 k x.1 x.2.1 x.2.2.1 x.2.2.2.1 }] { c := fun _ => none, cc := [], ms := [], tn := [], sh := false, fm := [] } rfl 5000 ⟨⟨fun _ _ => rfl, fun k x y => by kernel_rfl⟩, trivial⟩ (fun k x y => by kernel_rfl)

/-! ### loop.example/g00076/impl.isCycle: function 93 -/
def impl_isCycle.f (a0 : Int) : Option (Bool) := (impl_within.f a0 0 50000).bind fun t1 => (some t1)
def impl_isCycle.c : FnD := { f := 93, sh := false, ps := [.c (.int .i64)], pb := [], vc := .c (.bool), bs := [], R := Bool, fn := fun _ x y => impl_isCycle.f x.1, out := fun y => (y, ()), inn := fun d => d.1, inv := fun _ => rfl }
theorem impl_isCycle.ok : impl_isCycle.c.OK Tryz.prog :=
  FnD.of impl_isCycle.c mix tok (fn := Tryz.f93) Tryz.func93 (by kernel_rfl) (fun _ _ => by kernel_rfl) (by kernel_rfl) (by kernel_rfl) [impl_within.c] ⟨impl_within.ok, trivial⟩
    [] { c := fun _ => none, cc := [], ms := [], tn := [], sh := false, fm := [] } rfl 5000 trivial (fun k x y => by kernel_rfl)

/-! ### loop.example/g00076/impl.printCmd: function 35 -/
def impl_printCmd.f (k : Nat) (a0 : S33) (a1 : S85) : Option (ByteArray) := if a1.f0 = 1 then ((impl_within.f a1.f1 0 7).bind fun t1 => (if t1 = true then ((impl_confLine.f k (ByteArray.mk #[105, 110, 112, 117, 116]) ([a1.f1, (wrap64 (a1.f2))] : List Int)).bind fun t2 => (some t2)) else (if a1.f2 = 0 then (if a1.f0 = 0 then ((impl_isCycle.f a1.f1).bind fun t3 => (if t3 = true then ((impl_confLine.f k (ByteArray.mk #[114, 117, 110]) ([a1.f1] : List Int)).bind fun t4 => (some t4)) else (if a1.f0 = 2 then ((impl_within.f a1.f1 0 (wrap64 ((a0.f7.length : Int) - 1))).bind fun t5 => (if t5 = true then (if 0 ≤ a1.f1 then (if a1.f1 < (a0.f7.length : Int) then (if (ByteArray.mk #[114, 101, 115, 116, 97, 114, 116, 32]).size + ((rd_T71 a0.f7 a1.f1).f0).size ≤ 9223372036854775807 then (if ((ByteArray.mk #[114, 101, 115, 116, 97, 114, 116, 32]) ++ ((rd_T71 a0.f7 a1.f1).f0)).size + (ByteArray.mk #[10]).size ≤ 9223372036854775807 then (some (((ByteArray.mk #[114, 101, 115, 116, 97, 114, 116, 32]) ++ ((rd_T71 a0.f7 a1.f1).f0)) ++ (ByteArray.mk #[10]))) else none) else none) else none) else none) else (some (ByteArray.mk #[])))) else (some (ByteArray.mk #[]))))) else (if a1.f0 = 2 then ((impl_within.f a1.f1 0 (wrap64 ((a0.f7.length : Int) - 1))).bind fun t6 => (if t6 = true then (if 0 ≤ a1.f1 then (if a1.f1 < (a0.f7.length : Int) then (if (ByteArray.mk #[114, 101, 115, 116, 97, 114, 116, 32]).size + ((rd_T71 a0.f7 a1.f1).f0).size ≤ 9223372036854775807 then (if ((ByteArray.mk #[114, 101, 115, 116, 97, 114, 116, 32]) ++ ((rd_T71 a0.f7 a1.f1).f0)).size + (ByteArray.mk #[10]).size ≤ 9223372036854775807 then (some (((ByteArray.mk #[114, 101, 115, 116, 97, 114, 116, 32]) ++ ((rd_T71 a0.f7 a1.f1).f0)) ++ (ByteArray.mk #[10]))) else none) else none) else none) else none) else (some (ByteArray.mk #[])))) else (some (ByteArray.mk #[])))) else (some (ByteArray.mk #[]))))) else (if a1.f2 = 0 then (if a1.f0 = 0 then ((impl_isCycle.f a1.f1).bind fun t7 => (if t7 = true then ((impl_confLine.f k (ByteArray.mk #[114, 117, 110]) ([a1.f1] : List Int)).bind fun t8 => (some t8)) else (if a1.f0 = 2 then ((impl_within.f a1.f1 0 (wrap64 ((a0.f7.length : Int) - 1))).bind fun t9 => (if t9 = true then (if 0 ≤ a1.f1 then (if a1.f1 < (a0.f7.length : Int) then (if (ByteArray.mk #[114, 101, 115, 116, 97, 114, 116, 32]).size + ((rd_T71 a0.f7 a1.f1).f0).size ≤ 9223372036854775807 then (if ((ByteArray.mk #[114, 101, 115, 116, 97, 114, 116, 32]) ++ ((rd_T71 a0.f7 a1.f1).f0)).size + (ByteArray.mk #[10]).size ≤ 9223372036854775807 then (some (((ByteArray.mk #[114, 101, 115, 116, 97, 114, 116, 32]) ++ ((rd_T71 a0.f7 a1.f1).f0)) ++ (ByteArray.mk #[10]))) else none) else none) else none) else none) else (some (ByteArray.mk #[])))) else (some (ByteArray.mk #[]))))) else (if a1.f0 = 2 then ((impl_within.f a1.f1 0 (wrap64 ((a0.f7.length : Int) - 1))).bind fun t10 => (if t10 = true then (if 0 ≤ a1.f1 then (if a1.f1 < (a0.f7.length : Int) then (if (ByteArray.mk #[114, 101, 115, 116, 97, 114, 116, 32]).size + ((rd_T71 a0.f7 a1.f1).f0).size ≤ 9223372036854775807 then (if ((ByteArray.mk #[114, 101, 115, 116, 97, 114, 116, 32]) ++ ((rd_T71 a0.f7 a1.f1).f0)).size + (ByteArray.mk #[10]).size ≤ 9223372036854775807 then (some (((ByteArray.mk #[114, 101, 115, 116, 97, 114, 116, 32]) ++ ((rd_T71 a0.f7 a1.f1).f0)) ++ (ByteArray.mk #[10]))) else none) else none) else none) else none) else (some (ByteArray.mk #[])))) else (some (ByteArray.mk #[])))) else (some (ByteArray.mk #[])))
def impl_printCmd.c : FnD := { f := 35, sh := false, ps := [.agg T33, .agg T85], pb := [], vc := .c (.str), bs := [], R := ByteArray, fn := fun k x y => impl_printCmd.f k x.1 x.2.1, out := fun y => (y, ()), inn := fun d => d.1, inv := fun _ => rfl }
theorem impl_printCmd.ok : impl_printCmd.c.OK Tryz.prog :=
  FnD.of impl_printCmd.c mix tok (fn := Tryz.f35) Tryz.func35 (by kernel_rfl) (fun _ _ => by kernel_rfl) (by kernel_rfl) (by kernel_rfl) [impl_within.c, impl_confLine.c, impl_isCycle.c] ⟨impl_within.ok, ⟨impl_confLine.ok, ⟨impl_isCycle.ok, trivial⟩⟩⟩
    [] { c := fun _ => none, cc := [], ms := [], tn := [], sh := false, fm := [] } rfl 5000 trivial (fun k x y => by kernel_rfl)

/-! ### loop.example/g00076/impl.PrintScript: function 14 -/
def impl_PrintScript.l10 : Nat → (List S85) → Int → Int → S33 → ByteArray → Option (ByteArray × Bool)
  | 0, _, _, _, _, _ => none
  | k + 1, x18, x19, x20, y0, h1 => if x20 < x19 then (if 0 ≤ x20 then (if x20 < (x18.length : Int) then ((impl_printCmd.f k y0 (rd_T85 x18 x20)).bind fun t2 => (if t2 = (ByteArray.mk #[]) then (some ((ByteArray.mk #[]), false)) else (if h1.size + t2.size ≤ 140737488355328 then (impl_PrintScript.l10 k x18 x19 (wrap64 (x20 + 1)) y0 (h1 ++ t2)) else none))) else none) else none) else (some (h1, true))
def impl_PrintScript.f (k : Nat) (a0 : S33) (a1 : List S85) : Option (ByteArray × Bool) := (impl_isSound.f k a0).bind fun t1 => (if t1 = true then (if (a1.length : Int) > 300 then (some ((ByteArray.mk #[]), false)) else (impl_PrintScript.l10 k a1 (a1.length : Int) 0 a0 ByteArray.empty)) else (some ((ByteArray.mk #[]), false)))
def impl_PrintScript.c : FnD := { f := 14, sh := false, ps := [.agg T33, .c (.sl T85)], pb := [], vc := .tup [(false, [.str]), (false, [.bool])], bs := [], R := ByteArray × Bool, fn := fun k x y => impl_PrintScript.f k x.1 x.2.1, out := fun y => (((y.1, ()), (y.2, ()), ()), ()), inn := fun d => (d.1.1.1, d.1.2.1.1), inv := fun _ => rfl }
theorem impl_PrintScript.ok : impl_PrintScript.c.OK Tryz.prog :=
  FnD.ofB impl_PrintScript.c mix tok (some bw) bldOK (fn := Tryz.f14) Tryz.func14 (by kernel_rfl) (fun _ _ => by kernel_rfl) (by kernel_rfl) (by kernel_rfl) [impl_isSound.c, impl_printCmd.c] ⟨impl_isSound.ok, ⟨impl_printCmd.ok, trivial⟩⟩
    [{ lbl := 10, live := [(2, none), (6, none), (18, none), (19, none), (20, none)], ms := [], vs := [.c (.ptr 0 0), .c (.ptr 1 0), .c (.sl false T85), .c (.int .i64), .c (.int .i64)], bs := [.cells 33 [.int .i64, .int .i64, .int .i64, .int .i64, .int .i64, .int .i64, .int .i64, .int .i64, .int .i64, .int .i64, .int .i64, .int .i64, .int .i64, .int .i64, .int .i64, .sl false T71, .sl false (.int .i64), .sl false T77, .sl false T182], .bld 111 5], f := fun k x y => impl_PrintScript.l10 k x.2.2.1 x.2.2.2.1 x.2.2.2.2.1 (y.1.1, (y.1.2.1, y.1.2.2.1, y.1.2.2.2.1), y.1.2.2.2.2.1, (y.1.2.2.2.2.2.1, y.1.2.2.2.2.2.2.1, y.1.2.2.2.2.2.2.2.1, y.1.2.2.2.2.2.2.2.2.1, y.1.2.2.2.2.2.2.2.2.2.1, y.1.2.2.2.2.2.2.2.2.2.2.1, y.1.2.2.2.2.2.2.2.2.2.2.2.1), y.1.2.2.2.2.2.2.2.2.2.2.2.2.1, y.1.2.2.2.2.2.2.2.2.2.2.2.2.2.1, y.1.2.2.2.2.2.2.2.2.2.2.2.2.2.2.1, y.1.2.2.2.2.2.2.2.2.2.2.2.2.2.2.2.1, y.1.2.2.2.2.2.2.2.2.2.2.2.2.2.2.2.2.1, y.1.2.2.2.2.2.2.2.2.2.2.2.2.2.2.2.2.2.1, y.1.2.2.2.2.2.2.2.2.2.2.2.2.2.2.2.2.2.2.1) y.2.1 }] { c := fun _ => none, cc := [], ms := [], tn := [], sh := false, fm := [] } rfl 5000 ⟨⟨fun _ _ => rfl, fun k x y => by kernel_rfl⟩, trivial⟩ (fun k x y => by kernel_rfl)

/-! ### strings.Split: function 40 (by hand) -/
noncomputable def strings_Split.f (a0 : ByteArray) (a1 : ByteArray) : Option ((List ByteArray)) := splitF a0 a1
noncomputable abbrev strings_Split.c : FnD := splitC
theorem strings_Split.ok : strings_Split.c.OK Tryz.prog := splitC_ok

/-! ### internal/stringslite.HasSuffix: function 144 -/
def stringslite_HasSuffix.f (a0 : ByteArray) (a1 : ByteArray) : Option (Bool) := if (a0.size : Int) ≥ (a1.size : Int) then (if 0 ≤ (wrap64 ((a0.size : Int) - (a1.size : Int))) then (if (wrap64 ((a0.size : Int) - (a1.size : Int))) ≤ (a0.size : Int) then (if (a0.size : Int) ≤ (a0.size : Int) then (some (decide ((a0.extract (wrap64 ((a0.size : Int) - (a1.size : Int))).toNat (a0.size : Int).toNat) = a1))) else none) else none) else none) else (some false)
def stringslite_HasSuffix.c : FnD := { f := 144, sh := false, ps := [.c .str, .c .str], pb := [], vc := .c (.bool), bs := [], R := Bool, fn := fun _ x y => stringslite_HasSuffix.f x.1 x.2.1, out := fun y => (y, ()), inn := fun d => d.1, inv := fun _ => rfl }
theorem stringslite_HasSuffix.ok : stringslite_HasSuffix.c.OK Tryz.prog :=
  FnD.of stringslite_HasSuffix.c mix tok (fn := Tryz.f144) Tryz.func144 (by kernel_rfl) (fun _ _ => by kernel_rfl) (by kernel_rfl) (by kernel_rfl) [] trivial
    [] { c := fun _ => none, cc := [], ms := [], tn := [], sh := false, fm := [] } rfl 5000 trivial (fun k x y => by kernel_rfl)

/-! ### strings.HasSuffix: function 95 -/
def strings_HasSuffix.f (a0 : ByteArray) (a1 : ByteArray) : Option (Bool) := (stringslite_HasSuffix.f a0 a1).bind fun t1 => (some t1)
def strings_HasSuffix.c : FnD := { f := 95, sh := false, ps := [.c .str, .c .str], pb := [], vc := .c (.bool), bs := [], R := Bool, fn := fun _ x y => strings_HasSuffix.f x.1 x.2.1, out := fun y => (y, ()), inn := fun d => d.1, inv := fun _ => rfl }
theorem strings_HasSuffix.ok : strings_HasSuffix.c.OK Tryz.prog :=
  FnD.of strings_HasSuffix.c mix tok (fn := Tryz.f95) Tryz.func95 (by kernel_rfl) (fun _ _ => by kernel_rfl) (by kernel_rfl) (by kernel_rfl) [stringslite_HasSuffix.c] ⟨stringslite_HasSuffix.ok, trivial⟩
    [] { c := fun _ => none, cc := [], ms := [], tn := [], sh := false, fm := [] } rfl 5000 trivial (fun k x y => by kernel_rfl)

/-! ### loop.example/g00076/impl.linesOf: function 38 -/
def impl_linesOf.f (a0 : ByteArray) : Option ((List ByteArray) × Bool) := if (a0.size : Int) > 20000 then (some (([] : List ByteArray), false)) else (if a0 = (ByteArray.mk #[]) then ((strings_Split.f a0 (ByteArray.mk #[10])).bind fun t1 => (if (0 : Int) ≤ (wrap64 ((t1.length : Int) - 1)) then (if (wrap64 ((t1.length : Int) - 1)) ≤ (t1.length : Int) then (some (((t1.take (wrap64 ((t1.length : Int) - 1)).toNat).drop (0 : Int).toNat), (decide ((((t1.take (wrap64 ((t1.length : Int) - 1)).toNat).drop (0 : Int).toNat).length : Int) ≤ 600)))) else none) else none)) else ((strings_HasSuffix.f a0 (ByteArray.mk #[10])).bind fun t2 => (if t2 = true then ((strings_Split.f a0 (ByteArray.mk #[10])).bind fun t3 => (if (0 : Int) ≤ (wrap64 ((t3.length : Int) - 1)) then (if (wrap64 ((t3.length : Int) - 1)) ≤ (t3.length : Int) then (some (((t3.take (wrap64 ((t3.length : Int) - 1)).toNat).drop (0 : Int).toNat), (decide ((((t3.take (wrap64 ((t3.length : Int) - 1)).toNat).drop (0 : Int).toNat).length : Int) ≤ 600)))) else none) else none)) else (some (([] : List ByteArray), false)))))
def impl_linesOf.c : FnD := { f := 38, sh := false, ps := [.c .str], pb := [], vc := .tup [(false, [.sl true .str]), (false, [.bool])], bs := [], R := (List ByteArray) × Bool, fn := fun _ x y => impl_linesOf.f x.1, out := fun y => (((y.1, ()), (y.2, ()), ()), ()), inn := fun d => (d.1.1.1, d.1.2.1.1), inv := fun _ => rfl }
theorem impl_linesOf.ok : impl_linesOf.c.OK Tryz.prog :=
  FnD.of impl_linesOf.c mix tok (fn := Tryz.f38) Tryz.func38 (by kernel_rfl) (fun _ _ => by kernel_rfl) (by kernel_rfl) (by kernel_rfl) [strings_Split.c, strings_HasSuffix.c] ⟨strings_Split.ok, ⟨strings_HasSuffix.ok, trivial⟩⟩
    [] { c := fun n => bif Nat.beq n 0 then some (.data true .str) else  none, cc := [], ms := [], tn := [], sh := false, fm := [] } rfl 5000 trivial (fun k x y => by kernel_rfl)

/-! ### loop.example/g00076/impl.DecNum: function 96 (by hand) -/
noncomputable def impl_DecNum.f (a0 : ByteArray) (a1 : Int) : Option (Int × Bool) := decNumF a0 a1
noncomputable abbrev impl_DecNum.c : FnD := decNumC
theorem impl_DecNum.ok : impl_DecNum.c.OK Tryz.prog := decNumC_ok

end
end Go.Proofs.YtcjfheidmlcbfaaGreatDoor.PSr
