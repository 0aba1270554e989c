/- Go functions as Lean functions, each with its contract. -/
import Derived.Test.YtgagpmiooeoodaaGreatQTwox3
set_option linter.unusedVariables false
set_option maxRecDepth 100000
namespace Go.Proofs.YtgagpmiooeoodaaGreat.PTwo
open Go Go.Proofs Go.RowKit Go.Proofs.YtgagpmiooeoodaaGreat.V
/-! ### loop.example/g00076/impl.slotAt$1: function 202 -/
def impl_slotAt_1.f (a0 : S140) (c1 : Int) : Option (Bool) := if a0.f1 ≤ c1 then (some (decide (c1 < (wrap64 (a0.f1 + a0.f2))))) else (some false)
def impl_slotAt_1.c : FnD := { f := 202, sh := false, ps := [.agg T140, .cap (.int .i64)], pb := [], vc := .c (.bool), bs := [], R := Bool, fn := fun _ x y => impl_slotAt_1.f x.1 x.2.1, out := fun y => (y, ()), inn := fun d => d.1, inv := fun _ => rfl }
theorem impl_slotAt_1.ok : impl_slotAt_1.c.OK Tryz.prog :=
  FnD.of impl_slotAt_1.c mix tok (fn := Tryz.f202) Tryz.func202 (by kernel_rfl) (fun _ _ => by kernel_rfl) (by kernel_rfl) (by kernel_rfl) [] trivial
    [] { c := fun _ => none, ms := [], sh := false } rfl 5000 trivial (fun k x y => by kernel_rfl)

/-! ### slices.IndexFunc[[]loop.example/g00076/impl.Slot,loop.example/g00076/impl.Slot]: function 201 -/
def slices_IndexFunc_201_202.l4 : Nat → (List S140) → Int → Int → Int → Option (Int)
  | 0, _, _, _, _ => none
  | k + 1, x0, x1_0, x7, x8 => if x8 < x7 then (if 0 ≤ x8 then (if x8 < (x0.length : Int) then ((impl_slotAt_1.f (rd_T140 x0 x8) x1_0).bind fun t1 => (if t1 = true then (some x8) else (slices_IndexFunc_201_202.l4 k x0 x1_0 x7 (wrap64 (x8 + 1))))) else none) else none) else (some (-1))
def slices_IndexFunc_201_202.f (k : Nat) (a0 : List S140) (p1_0 : Int) : Option (Int) := slices_IndexFunc_201_202.l4 k a0 p1_0 (a0.length : Int) 0
def slices_IndexFunc_201_202.c : FnD := { f := 201, sh := false, ps := [.c (.sl T140), .fn 202 [(.int .i64)]], pb := [], vc := .c (.int .i64), bs := [], R := Int, fn := fun k x y => slices_IndexFunc_201_202.f k x.1 x.2.1.1, out := fun y => (y, ()), inn := fun d => d.1, inv := fun _ => rfl }
theorem slices_IndexFunc_201_202.ok : slices_IndexFunc_201_202.c.OK Tryz.prog :=
  FnD.of slices_IndexFunc_201_202.c mix tok (fn := Tryz.f201) Tryz.func201 (by kernel_rfl) (fun _ _ => by kernel_rfl) (by kernel_rfl) (by kernel_rfl) [impl_slotAt_1.c] ⟨impl_slotAt_1.ok, trivial⟩
    [{ lbl := 4, live := [(0, none), (1, none), (7, none), (8, none)], ms := [], vs := [.c (.sl false T140), .c (.fn 202 [(.int .i64)]), .c (.int .i64), .c (.int .i64)], bs := [], f := fun k x y => slices_IndexFunc_201_202.l4 k x.1 x.2.1.1 x.2.2.1 x.2.2.2.1 }] { c := fun _ => none, ms := [], sh := false } rfl 5000 ⟨⟨fun _ _ => rfl, fun k x y => by kernel_rfl⟩, trivial⟩ (fun k x y => by kernel_rfl)

/-! ### loop.example/g00076/impl.slotAt: function 160 -/
def impl_slotAt.f (k : Nat) (a0 : S42) (a1 : Int) : Option (Int) := if a0.f6 = 0 then none else ((slices_IndexFunc_201_202.f k a0.f10 (Int.tmod a1 a0.f6)).bind fun t1 => (some t1))
def impl_slotAt.c : FnD := { f := 160, sh := false, ps := [.agg T42, .c (.int .i64)], pb := [], vc := .c (.int .i64), bs := [], R := Int, fn := fun k x y => impl_slotAt.f k x.1 x.2.1, out := fun y => (y, ()), inn := fun d => d.1, inv := fun _ => rfl }
theorem impl_slotAt.ok : impl_slotAt.c.OK Tryz.prog :=
  FnD.of impl_slotAt.c mix tok (fn := Tryz.f160) Tryz.func160 (by kernel_rfl) (fun _ _ => by kernel_rfl) (by kernel_rfl) (by kernel_rfl) [slices_IndexFunc_201_202.c] ⟨slices_IndexFunc_201_202.ok, trivial⟩
    [] { c := fun _ => none, ms := [], sh := false } rfl 5000 trivial (fun k x y => by kernel_rfl)

/-! ### loop.example/g00076/impl.phaseAt: function 148 -/
def impl_phaseAt.f (k : Nat) (a0 : S42) (a1 : Int) : Option (Int × Int) := (impl_slotAt.f k a0 a1).bind fun t1 => (if t1 < 0 then (some (0, (-1))) else (if 0 ≤ t1 then (if t1 < (a0.f10.length : Int) then (if a0.f6 = 0 then none else (if (wrap64 ((Int.tmod a1 a0.f6) - ((rd_T140 a0.f10 t1).f1))) < a0.f4 then (some (1, (rd_T140 a0.f10 t1).f0)) else (if (wrap64 ((Int.tmod a1 a0.f6) - ((rd_T140 a0.f10 t1).f1))) ≥ (wrap64 (((rd_T140 a0.f10 t1).f2) - a0.f5)) then (some (3, (rd_T140 a0.f10 t1).f0)) else (some (2, (rd_T140 a0.f10 t1).f0))))) else none) else none))
def impl_phaseAt.c : FnD := { f := 148, sh := false, ps := [.agg T42, .c (.int .i64)], pb := [], vc := .tup [(false, [.int .i64]), (false, [.int .i64])], bs := [], R := Int × Int, fn := fun k x y => impl_phaseAt.f k x.1 x.2.1, out := fun y => (((y.1, ()), (y.2, ()), ()), ()), inn := fun d => (d.1.1.1, d.1.2.1.1), inv := fun _ => rfl }
theorem impl_phaseAt.ok : impl_phaseAt.c.OK Tryz.prog :=
  FnD.of impl_phaseAt.c mix tok (fn := Tryz.f148) Tryz.func148 (by kernel_rfl) (fun _ _ => by kernel_rfl) (by kernel_rfl) (by kernel_rfl) [impl_slotAt.c] ⟨impl_slotAt.ok, trivial⟩
    [] { c := fun _ => none, ms := [], sh := false } rfl 5000 trivial (fun k x y => by kernel_rfl)

/-! ### loop.example/g00076/impl.spans: function 110 -/
def impl_spans.l8 : Nat → Int → Int → Int → S42 → (List S96) → Option ((List S96))
  | 0, _, _, _, _, _ => none
  | k + 1, x2, x8, x9, y0, h1 => if x9 < x2 then ((impl_phaseAt.f k y0 x9).bind fun t1 => ((impl_slotAt.f k y0 x9).bind fun t2 => (if (wrap64 ((h1.length : Int) - 1)) ≥ 0 then (if t2 = x8 then (if 0 ≤ (wrap64 ((h1.length : Int) - 1)) then (if (wrap64 ((h1.length : Int) - 1)) < (h1.length : Int) then (if (rd_T96 h1 (wrap64 ((h1.length : Int) - 1))).f3 = t1.1 then (if y0.f6 = 0 then none else (if (Int.tmod x9 y0.f6) = 0 then (if h1.length + ([(⟨x9, (wrap64 (x9 + 1)), t1.2, t1.1⟩ : S96)] : List S96).length < 4398046511104 then (impl_spans.l8 k x2 t2 (wrap64 (x9 + 1)) y0 (h1 ++ ([(⟨x9, (wrap64 (x9 + 1)), t1.2, t1.1⟩ : S96)] : List S96))) else none) else (if 0 ≤ (wrap64 ((h1.length : Int) - 1)) then (if (wrap64 ((h1.length : Int) - 1)) < (h1.length : Int) then ((let q3 : List S96 := h1.set (wrap64 ((h1.length : Int) - 1)).toNat (⟨(rd_T96 h1 (wrap64 ((h1.length : Int) - 1))).f0, (wrap64 (x9 + 1)), (rd_T96 h1 (wrap64 ((h1.length : Int) - 1))).f2, (rd_T96 h1 (wrap64 ((h1.length : Int) - 1))).f3⟩ : S96); impl_spans.l8 k x2 x8 (wrap64 (x9 + 1)) y0 q3)) else none) else none))) else (if h1.length + ([(⟨x9, (wrap64 (x9 + 1)), t1.2, t1.1⟩ : S96)] : List S96).length < 4398046511104 then (impl_spans.l8 k x2 t2 (wrap64 (x9 + 1)) y0 (h1 ++ ([(⟨x9, (wrap64 (x9 + 1)), t1.2, t1.1⟩ : S96)] : List S96))) else none)) else none) else none) else (if h1.length + ([(⟨x9, (wrap64 (x9 + 1)), t1.2, t1.1⟩ : S96)] : List S96).length < 4398046511104 then (impl_spans.l8 k x2 t2 (wrap64 (x9 + 1)) y0 (h1 ++ ([(⟨x9, (wrap64 (x9 + 1)), t1.2, t1.1⟩ : S96)] : List S96))) else none)) else (if h1.length + ([(⟨x9, (wrap64 (x9 + 1)), t1.2, t1.1⟩ : S96)] : List S96).length < 4398046511104 then (impl_spans.l8 k x2 t2 (wrap64 (x9 + 1)) y0 (h1 ++ ([(⟨x9, (wrap64 (x9 + 1)), t1.2, t1.1⟩ : S96)] : List S96))) else none)))) else (some h1)
def impl_spans.f (k : Nat) (a0 : S42) (a1 : Int) (a2 : Int) : Option ((List S96)) := impl_spans.l8 k a2 (-2) a1 a0 ([] : List S96)
def impl_spans.c : FnD := { f := 110, sh := false, ps := [.agg T42, .c (.int .i64), .c (.int .i64)], pb := [], vc := .c (.own 0), bs := [.arr T96 .un], R := (List S96), fn := fun k x y => impl_spans.f k x.1 x.2.1 x.2.2.1, out := fun y => ((), (y, ())), inn := fun d => d.2.1, inv := fun _ => rfl }
theorem impl_spans.ok : impl_spans.c.OK Tryz.prog :=
  FnD.of impl_spans.c mix tok (fn := Tryz.f110) Tryz.func110 (by kernel_rfl) (fun _ _ => by kernel_rfl) (by kernel_rfl) (by kernel_rfl) [impl_phaseAt.c, impl_slotAt.c] ⟨impl_phaseAt.ok, ⟨impl_slotAt.ok, trivial⟩⟩
    [{ lbl := 8, live := [(2, none), (3, none), (7, some (.row T96)), (8, none), (9, none)], ms := [], vs := [.c (.int .i64), .c (.ptr 0 0), .c (.own 1), .c (.int .i64), .c (.int .i64)], bs := [.cells 42 [.int .i64, .int .i64, .int .i64, .int .i64, .int .i64, .int .i64, .int .i64, .int .i64, .int .i64, .int .i64, .int .i64, .int .i64, .int .i64, .int .i64, .int .i64, .sl false T128, .sl false (.int .i64), .sl false T119, .sl false T140], .arr T96 .un], f := fun k x y => impl_spans.l8 k x.1 x.2.2.2.1 x.2.2.2.2.1 (y.1.1, (y.1.2.1, y.1.2.2.1, y.1.2.2.2.1), y.1.2.2.2.2.1, (y.1.2.2.2.2.2.1, y.1.2.2.2.2.2.2.1, y.1.2.2.2.2.2.2.2.1, y.1.2.2.2.2.2.2.2.2.1, y.1.2.2.2.2.2.2.2.2.2.1, y.1.2.2.2.2.2.2.2.2.2.2.1, y.1.2.2.2.2.2.2.2.2.2.2.2.1), y.1.2.2.2.2.2.2.2.2.2.2.2.2.1, y.1.2.2.2.2.2.2.2.2.2.2.2.2.2.1, y.1.2.2.2.2.2.2.2.2.2.2.2.2.2.2.1, y.1.2.2.2.2.2.2.2.2.2.2.2.2.2.2.2.1, y.1.2.2.2.2.2.2.2.2.2.2.2.2.2.2.2.2.1, y.1.2.2.2.2.2.2.2.2.2.2.2.2.2.2.2.2.2.1, y.1.2.2.2.2.2.2.2.2.2.2.2.2.2.2.2.2.2.2.1) y.2.1 }] { c := fun _ => none, ms := [], sh := false } rfl 5000 ⟨⟨fun _ _ => rfl, fun k x y => by kernel_rfl⟩, trivial⟩ (fun k x y => by kernel_rfl)

/-! ### loop.example/g00076/impl.Spans: function 45 -/
def impl_Spans.f (k : Nat) (a0 : S42) (a1 : Int) (a2 : Int) : Option ((List S96)) := (impl_isSound.f k a0).bind fun t1 => (if t1 = true then ((impl_isCycle.f a1).bind fun t2 => (if t2 = true then ((impl_isCycle.f a2).bind fun t3 => (if t3 = true then ((impl_within.f (wrap64 (a2 - a1)) 1 5000).bind fun t4 => (if t4 = true then ((impl_spans.f k a0 a1 a2).bind fun t5 => (some t5)) else (some ([] : List S96)))) else (some ([] : List S96)))) else (some ([] : List S96)))) else (some ([] : List S96)))
def impl_Spans.c : FnD := { f := 45, sh := false, ps := [.agg T42, .c (.int .i64), .c (.int .i64)], pb := [], vc := .c (.own 0), bs := [.arr T96 .un], R := (List S96), fn := fun k x y => impl_Spans.f k x.1 x.2.1 x.2.2.1, out := fun y => ((), (y, ())), inn := fun d => d.2.1, inv := fun _ => rfl }
theorem impl_Spans.ok : impl_Spans.c.OK Tryz.prog :=
  FnD.of impl_Spans.c mix tok (fn := Tryz.f45) Tryz.func45 (by kernel_rfl) (fun _ _ => by kernel_rfl) (by kernel_rfl) (by kernel_rfl) [impl_isSound.c, impl_isCycle.c, impl_within.c, impl_spans.c] ⟨impl_isSound.ok, ⟨impl_isCycle.ok, ⟨impl_within.ok, ⟨impl_spans.ok, trivial⟩⟩⟩⟩
    [] { c := fun n => bif Nat.beq n 0 then some (.row T96) else  none, ms := [], sh := false } rfl 5000 trivial (fun k x y => by kernel_rfl)

/-! ### slices.Equal[[]loop.example/g00076/impl.Span,loop.example/g00076/impl.Span]: function 100 -/
def slices_Equal_100.l8 : Nat → (List S96) → (List S96) → Int → Int → Option (Bool)
  | 0, _, _, _, _ => none
  | k + 1, x0, x1, x12, x13 => if x13 < x12 then (if 0 ≤ x13 then (if x13 < (x0.length : Int) then (if 0 ≤ x13 then (if x13 < (x1.length : Int) then (if (rd_T96 x0 x13) = (rd_T96 x1 x13) then (slices_Equal_100.l8 k x0 x1 x12 (wrap64 (x13 + 1))) else (some false)) else none) else none) else none) else none) else (some true)
def slices_Equal_100.f (k : Nat) (a0 : List S96) (a1 : List S96) : Option (Bool) := if (a0.length : Int) = (a1.length : Int) then (slices_Equal_100.l8 k a0 a1 (a0.length : Int) 0) else (some false)
def slices_Equal_100.c : FnD := { f := 100, sh := false, ps := [.c (.sl T96), .c (.sl T96)], pb := [], vc := .c (.bool), bs := [], R := Bool, fn := fun k x y => slices_Equal_100.f k x.1 x.2.1, out := fun y => (y, ()), inn := fun d => d.1, inv := fun _ => rfl }
theorem slices_Equal_100.ok : slices_Equal_100.c.OK Tryz.prog :=
  FnD.of slices_Equal_100.c mix tok (fn := Tryz.f100) Tryz.func100 (by kernel_rfl) (fun _ _ => by kernel_rfl) (by kernel_rfl) (by kernel_rfl) [] trivial
    [{ lbl := 8, live := [(0, none), (1, none), (12, none), (13, none)], ms := [], vs := [.c (.sl false T96), .c (.sl false T96), .c (.int .i64), .c (.int .i64)], bs := [], f := fun k x y => slices_Equal_100.l8 k x.1 x.2.1 x.2.2.1 x.2.2.2.1 }] { c := fun _ => none, ms := [], sh := false } rfl 5000 ⟨⟨fun _ _ => rfl, fun k x y => by kernel_rfl⟩, trivial⟩ (fun k x y => by kernel_rfl)

/-! ### loop.example/g00076/impl.SpansOk: function 35 -/
def impl_SpansOk.f (k : Nat) (a0 : S42) (a1 : Int) (a2 : Int) (a3 : List S96) : Option (Bool) := (impl_Spans.f k a0 a1 a2).bind fun t1 => (if (t1.length : Int) > 0 then ((slices_Equal_100.f k t1 a3).bind fun t2 => (some t2)) else (some false))
def impl_SpansOk.c : FnD := { f := 35, sh := false, ps := [.agg T42, .c (.int .i64), .c (.int .i64), .c (.sl T96)], pb := [], vc := .c (.bool), bs := [], R := Bool, fn := fun k x y => impl_SpansOk.f k x.1 x.2.1 x.2.2.1 x.2.2.2.1, out := fun y => (y, ()), inn := fun d => d.1, inv := fun _ => rfl }
theorem impl_SpansOk.ok : impl_SpansOk.c.OK Tryz.prog :=
  FnD.of impl_SpansOk.c mix tok (fn := Tryz.f35) Tryz.func35 (by kernel_rfl) (fun _ _ => by kernel_rfl) (by kernel_rfl) (by kernel_rfl) [impl_Spans.c, slices_Equal_100.c] ⟨impl_Spans.ok, ⟨slices_Equal_100.ok, trivial⟩⟩
    [] { c := fun _ => none, ms := [], sh := false } rfl 5000 trivial (fun k x y => by kernel_rfl)

/-! ### loop.example/g00076/laws.eqSpan: function 89 -/
def laws_eqSpan.f (a0 : S96) (a1 : S96) : Option (Bool) := if a0.f0 = a1.f0 then (if a0.f1 = a1.f1 then (if a0.f2 = a1.f2 then (if a0.f3 = a1.f3 then (some true) else (some false)) else (some false)) else (some false)) else (some false)
def laws_eqSpan.c : FnD := { f := 89, sh := false, ps := [.agg T96, .agg T96], pb := [], vc := .c (.bool), bs := [], R := Bool, fn := fun _ x y => laws_eqSpan.f x.1 x.2.1, out := fun y => (y, ()), inn := fun d => d.1, inv := fun _ => rfl }
theorem laws_eqSpan.ok : laws_eqSpan.c.OK Tryz.prog :=
  FnD.of laws_eqSpan.c mix tok (fn := Tryz.f89) Tryz.func89 (by kernel_rfl) (fun _ _ => by kernel_rfl) (by kernel_rfl) (by kernel_rfl) [] trivial
    [] { c := fun _ => none, ms := [], sh := false } rfl 5000 trivial (fun k x y => by kernel_rfl)

/-! ### loop.example/g00076/laws.eqSpanS: function 22 -/
def laws_eqSpanS.l8 : Nat → (List S96) → (List S96) → Int → Option (Bool)
  | 0, _, _, _ => none
  | k + 1, x0, x1, x5 => if x5 < (x0.length : Int) then (if 0 ≤ x5 then (if x5 < (x0.length : Int) then (if 0 ≤ x5 then (if x5 < (x1.length : Int) then ((laws_eqSpan.f (rd_T96 x0 x5) (rd_T96 x1 x5)).bind fun t1 => (if t1 = true then (laws_eqSpanS.l8 k x0 x1 (wrap64 (x5 + 1))) else (some false))) else none) else none) else none) else none) else (some true)
def laws_eqSpanS.f (k : Nat) (a0 : List S96) (a1 : List S96) : Option (Bool) := if (a0.length : Int) = (a1.length : Int) then (laws_eqSpanS.l8 k a0 a1 0) else (some false)
def laws_eqSpanS.c : FnD := { f := 22, sh := false, ps := [.c (.sl T96), .c (.sl T96)], pb := [], vc := .c (.bool), bs := [], R := Bool, fn := fun k x y => laws_eqSpanS.f k x.1 x.2.1, out := fun y => (y, ()), inn := fun d => d.1, inv := fun _ => rfl }
theorem laws_eqSpanS.ok : laws_eqSpanS.c.OK Tryz.prog :=
  FnD.of laws_eqSpanS.c mix tok (fn := Tryz.f22) Tryz.func22 (by kernel_rfl) (fun _ _ => by kernel_rfl) (by kernel_rfl) (by kernel_rfl) [laws_eqSpan.c] ⟨laws_eqSpan.ok, trivial⟩
    [{ lbl := 8, live := [(0, none), (1, none), (5, none)], ms := [], vs := [.c (.sl false T96), .c (.sl false T96), .c (.int .i64)], bs := [], f := fun k x y => laws_eqSpanS.l8 k x.1 x.2.1 x.2.2.1 }] { c := fun _ => none, ms := [], sh := false } rfl 5000 ⟨⟨fun _ _ => rfl, fun k x y => by kernel_rfl⟩, trivial⟩ (fun k x y => by kernel_rfl)

/-! ### loop.example/g00076/laws.FnExactSpansOk: function 6 -/
def laws_FnExactSpansOk.f (k : Nat) (a0 : S31) (a1 : Int) (a2 : Int) (a3 : List S106) : Option (Bool) := (laws_szTables.f k a0 1048576).bind fun t1 => (if t1 < 0 then (some true) else ((laws_szSpanS.f a3 t1).bind fun t2 => (if t2 < 0 then (some true) else ((laws_toTables.f k a0).bind fun t3 => ((laws_toSpanS.f k a3).bind fun t4 => ((spec_SpansOk.f k t3 a1 a2 t4).bind fun t5 => ((laws_toTables.f k a0).bind fun t6 => ((laws_toSpanS.f k a3).bind fun t7 => ((impl_SpansOk.f k t6 a1 a2 t7).bind fun t8 => (if (t8 == t5) = true then ((laws_toTables.f k a0).bind fun t9 => ((laws_eqTables.f k t6 t9).bind fun t10 => (if t10 = true then ((laws_toSpanS.f k a3).bind fun t11 => ((laws_eqSpanS.f k t7 t11).bind fun t12 => (if t12 = true then (some true) else (some false)))) else (some false)))) else (some false)))))))))))
def laws_FnExactSpansOk.c : FnD := { f := 6, sh := false, ps := [.agg T31, .c (.int .i64), .c (.int .i64), .c (.sl T106)], pb := [], vc := .c (.bool), bs := [], R := Bool, fn := fun k x y => laws_FnExactSpansOk.f k x.1 x.2.1 x.2.2.1 x.2.2.2.1, out := fun y => (y, ()), inn := fun d => d.1, inv := fun _ => rfl }
theorem laws_FnExactSpansOk.ok : laws_FnExactSpansOk.c.OK Tryz.prog :=
  FnD.of laws_FnExactSpansOk.c mix tok (fn := Tryz.f6) Tryz.func6 (by kernel_rfl) (fun _ _ => by kernel_rfl) (by kernel_rfl) (by kernel_rfl) [laws_szTables.c, laws_szSpanS.c, laws_toTables.c, laws_toSpanS.c, spec_SpansOk.c, impl_SpansOk.c, laws_eqTables.c, laws_eqSpanS.c] ⟨laws_szTables.ok, ⟨laws_szSpanS.ok, ⟨laws_toTables.ok, ⟨laws_toSpanS.ok, ⟨spec_SpansOk.ok, ⟨impl_SpansOk.ok, ⟨laws_eqTables.ok, ⟨laws_eqSpanS.ok, trivial⟩⟩⟩⟩⟩⟩⟩⟩
    [] { c := fun _ => none, ms := [], sh := false } rfl 5000 trivial (fun k x y => by kernel_rfl)

/-! ### loop.example/g00076/laws.markSpanS: function 46 -/
def laws_markSpanS_o1.l4 : Nat → Int → Int → (List S96) → Option (Int × (List S96))
  | 0, _, _, _ => none
  | k + 1, x1, x5, h0 => if x5 < (h0.length : Int) then (if 0 ≤ x5 then (if x5 < (h0.length : Int) then ((let q1 : List S96 := h0.set x5.toNat (⟨x1, (rd_T96 h0 x5).f1, (rd_T96 h0 x5).f2, (rd_T96 h0 x5).f3⟩ : S96); if 0 ≤ x5 then (if x5 < (q1.length : Int) then ((let q2 : List S96 := q1.set x5.toNat (⟨(rd_T96 q1 x5).f0, (wrap64 (x1 + 1)), (rd_T96 q1 x5).f2, (rd_T96 q1 x5).f3⟩ : S96); if 0 ≤ x5 then (if x5 < (q2.length : Int) then ((let q3 : List S96 := q2.set x5.toNat (⟨(rd_T96 q2 x5).f0, (rd_T96 q2 x5).f1, (wrap64 ((wrap64 (x1 + 1)) + 1)), (rd_T96 q2 x5).f3⟩ : S96); if 0 ≤ x5 then (if x5 < (q3.length : Int) then ((let q4 : List S96 := q3.set x5.toNat (⟨(rd_T96 q3 x5).f0, (rd_T96 q3 x5).f1, (rd_T96 q3 x5).f2, (wrap64 ((wrap64 ((wrap64 (x1 + 1)) + 1)) + 1))⟩ : S96); laws_markSpanS_o1.l4 k (wrap64 ((wrap64 ((wrap64 ((wrap64 (x1 + 1)) + 1)) + 1)) + 1)) (wrap64 (x5 + 1)) q4)) else none) else none)) else none) else none)) else none) else none)) else none) else none) else (some (x1, h0))
def laws_markSpanS_o1.f (k : Nat) (a1 : Int) (h0 : List S96) : Option (Int × (List S96)) := laws_markSpanS_o1.l4 k a1 0 h0
def laws_markSpanS_o1.c : FnD := { f := 46, sh := false, ps := [.vc (.c (.own 0)), .c (.int .i64)], pb := [.arr T96 .un], vc := .c (.int .i64), bs := [.arr T96 .un], R := Int × (List S96), fn := fun k x y => laws_markSpanS_o1.f k x.2.1 y.1, out := fun y => (y.1, (y.2, ())), inn := fun d => (d.1, d.2.1), inv := fun _ => rfl }
theorem laws_markSpanS_o1.ok : laws_markSpanS_o1.c.OK Tryz.prog :=
  FnD.of laws_markSpanS_o1.c mix tok (fn := Tryz.f46) Tryz.func46 (by kernel_rfl) (fun _ _ => by kernel_rfl) (by kernel_rfl) (by kernel_rfl) [] trivial
    [{ lbl := 4, live := [(0, none), (1, none), (5, none)], ms := [], vs := [.c (.own 0), .c (.int .i64), .c (.int .i64)], bs := [.arr T96 .un], f := fun k x y => laws_markSpanS_o1.l4 k x.2.1 x.2.2.1 y.1 }] { c := fun _ => none, ms := [], sh := false } rfl 5000 ⟨⟨fun _ _ => rfl, fun k x y => by kernel_rfl⟩, trivial⟩ (fun k x y => by kernel_rfl)

/-! ### loop.example/g00076/laws.heldSpanS: function 47 -/
def laws_heldSpanS.l4 : Nat → (List S96) → Int → Int → Option (Int)
  | 0, _, _, _ => none
  | k + 1, x0, x1, x5 => if x5 < (x0.length : Int) then (if 0 ≤ x5 then (if x5 < (x0.length : Int) then (if (rd_T96 x0 x5).f0 = x1 then (if 0 ≤ x5 then (if x5 < (x0.length : Int) then (if (rd_T96 x0 x5).f1 = (wrap64 (x1 + 1)) then (if 0 ≤ x5 then (if x5 < (x0.length : Int) then (if (rd_T96 x0 x5).f2 = (wrap64 ((wrap64 (x1 + 1)) + 1)) then (if 0 ≤ x5 then (if x5 < (x0.length : Int) then (if (rd_T96 x0 x5).f3 = (wrap64 ((wrap64 ((wrap64 (x1 + 1)) + 1)) + 1)) then (laws_heldSpanS.l4 k x0 (wrap64 ((wrap64 ((wrap64 ((wrap64 (x1 + 1)) + 1)) + 1)) + 1)) (wrap64 (x5 + 1))) else (some (-1))) else none) else none) else (some (-1))) else none) else none) else (some (-1))) else none) else none) else (some (-1))) else none) else none) else (some x1)
def laws_heldSpanS.f (k : Nat) (a0 : List S96) (a1 : Int) : Option (Int) := laws_heldSpanS.l4 k a0 a1 0
def laws_heldSpanS.c : FnD := { f := 47, sh := false, ps := [.c (.sl T96), .c (.int .i64)], pb := [], vc := .c (.int .i64), bs := [], R := Int, fn := fun k x y => laws_heldSpanS.f k x.1 x.2.1, out := fun y => (y, ()), inn := fun d => d.1, inv := fun _ => rfl }
theorem laws_heldSpanS.ok : laws_heldSpanS.c.OK Tryz.prog :=
  FnD.of laws_heldSpanS.c mix tok (fn := Tryz.f47) Tryz.func47 (by kernel_rfl) (fun _ _ => by kernel_rfl) (by kernel_rfl) (by kernel_rfl) [] trivial
    [{ lbl := 4, live := [(0, none), (1, none), (5, none)], ms := [], vs := [.c (.sl false T96), .c (.int .i64), .c (.int .i64)], bs := [], f := fun k x y => laws_heldSpanS.l4 k x.1 x.2.1 x.2.2.1 }] { c := fun _ => none, ms := [], sh := false } rfl 5000 ⟨⟨fun _ _ => rfl, fun k x y => by kernel_rfl⟩, trivial⟩ (fun k x y => by kernel_rfl)

/-! ### loop.example/g00076/laws.FnExactSpans: function 8 -/
def laws_FnExactSpans.f (k : Nat) (a0 : S31) (a1 : Int) (a2 : Int) : Option (Bool) := (laws_szTables.f k a0 1048576).bind fun t1 => (if t1 < 0 then (some true) else ((laws_toTables.f k a0).bind fun t2 => ((spec_Spans.f k t2 a1 a2).bind fun t3 => ((laws_toTables.f k a0).bind fun t4 => ((impl_Spans.f k t4 a1 a2).bind fun t5 => ((laws_eqSpanS.f k t5 t3).bind fun t6 => (if t6 = true then ((laws_toTables.f k a0).bind fun t7 => ((laws_eqTables.f k t4 t7).bind fun t8 => (if t8 = true then ((laws_markTables_o1.f k t4.f0 t4.f1.f0 t4.f1.f1 t4.f1.f2 t4.f2 t4.f3.f0 t4.f3.f1 t4.f3.f2 t4.f3.f3 t4.f3.f4 t4.f3.f5 t4.f3.f6 t4.f4 t4.f5 t4.f6 1 t4.f7 t4.f8 t4.f9 t4.f10).bind fun t9 => (if t9.1 < 0 then (some false) else ((laws_eqSpanS.f k t5 t3).bind fun t10 => (if t10 = true then ((laws_markSpanS_o1.f k 1 t5).bind fun t11 => ((laws_heldSpanS.f k t11.2 1).bind fun t12 => (if t12 < 0 then (some false) else (if t12 = t11.1 then ((laws_toTables.f k a0).bind fun t13 => ((impl_Spans.f k t13 a1 a2).bind fun t14 => ((laws_eqSpanS.f k t14 t3).bind fun t15 => (if t15 = true then ((laws_heldSpanS.f k t11.2 1).bind fun t16 => (if t16 < 0 then (some false) else (if t16 = t11.1 then (some true) else (some false)))) else (some false))))) else (some false))))) else (some false))))) else (some false)))) else (some false))))))))
def laws_FnExactSpans.c : FnD := { f := 8, sh := false, ps := [.agg T31, .c (.int .i64), .c (.int .i64)], pb := [], vc := .c (.bool), bs := [], R := Bool, fn := fun k x y => laws_FnExactSpans.f k x.1 x.2.1 x.2.2.1, out := fun y => (y, ()), inn := fun d => d.1, inv := fun _ => rfl }
theorem laws_FnExactSpans.ok : laws_FnExactSpans.c.OK Tryz.prog :=
  FnD.of laws_FnExactSpans.c mix tok (fn := Tryz.f8) Tryz.func8 (by kernel_rfl) (fun _ _ => by kernel_rfl) (by kernel_rfl) (by kernel_rfl) [laws_markTables_o1.c, laws_markSpanS_o1.c, laws_szTables.c, laws_toTables.c, spec_Spans.c, impl_Spans.c, laws_eqSpanS.c, laws_eqTables.c, laws_heldSpanS.c] ⟨laws_markTables_o1.ok, ⟨laws_markSpanS_o1.ok, ⟨laws_szTables.ok, ⟨laws_toTables.ok, ⟨spec_Spans.ok, ⟨impl_Spans.ok, ⟨laws_eqSpanS.ok, ⟨laws_eqTables.ok, ⟨laws_heldSpanS.ok, trivial⟩⟩⟩⟩⟩⟩⟩⟩⟩
    [] { c := fun _ => none, ms := [], sh := false } rfl 5000 trivial (fun k x y => by kernel_rfl)

/-! ### loop.example/g00076/laws.szCmdS: function 52 -/
def laws_szCmdS.f (a0 : List S146) (a1 : Int) : Option (Int) := if (wrap64 (a1 - (a0.length : Int))) < 0 then (some (-1)) else (some (wrap64 (a1 - (a0.length : Int))))
def laws_szCmdS.c : FnD := { f := 52, sh := false, ps := [.c (.sl T146), .c (.int .i64)], pb := [], vc := .c (.int .i64), bs := [], R := Int, fn := fun _ x y => laws_szCmdS.f x.1 x.2.1, out := fun y => (y, ()), inn := fun d => d.1, inv := fun _ => rfl }
theorem laws_szCmdS.ok : laws_szCmdS.c.OK Tryz.prog :=
  FnD.of laws_szCmdS.c mix tok (fn := Tryz.f52) Tryz.func52 (by kernel_rfl) (fun _ _ => by kernel_rfl) (by kernel_rfl) (by kernel_rfl) [] trivial
    [] { c := fun _ => none, ms := [], sh := false } rfl 5000 trivial (fun k x y => by kernel_rfl)

/-! ### loop.example/g00076/laws.toCmd: function 118 -/
def laws_toCmd.f (a0 : S146) : Option (S144) := some (⟨a0.f0, a0.f1, a0.f2⟩ : S144)
def laws_toCmd.c : FnD := { f := 118, sh := false, ps := [.agg T146], pb := [], vc := .agg [.int .i64, .int .i64, .int .u32], bs := [], R := S144, fn := fun _ x y => laws_toCmd.f x.1, out := fun y => ((y.1, y.2.1, y.2.2, ()), ()), inn := fun d => (d.1.1, d.1.2.1, d.1.2.2.1), inv := fun _ => rfl }
theorem laws_toCmd.ok : laws_toCmd.c.OK Tryz.prog :=
  FnD.of laws_toCmd.c mix tok (fn := Tryz.f118) Tryz.func118 (by kernel_rfl) (fun _ _ => by kernel_rfl) (by kernel_rfl) (by kernel_rfl) [] trivial
    [] { c := fun _ => none, ms := [], sh := false } rfl 5000 trivial (fun k x y => by kernel_rfl)

/-! ### loop.example/g00076/laws.toCmdS: function 54 -/
def laws_toCmdS.l6 : Nat → (List S146) → Int → (List S144) → Option ((List S144))
  | 0, _, _, _ => none
  | k + 1, x0, x4, h0 => if x4 < (x0.length : Int) then (if 0 ≤ x4 then (if x4 < (x0.length : Int) then ((laws_toCmd.f (rd_T146 x0 x4)).bind fun t1 => (if 0 ≤ x4 then (if x4 < (h0.length : Int) then (laws_toCmdS.l6 k x0 (wrap64 (x4 + 1)) (h0.set x4.toNat t1)) else none) else none)) else none) else none) else (some h0)
def laws_toCmdS.f (k : Nat) (a0 : List S146) : Option ((List S144)) := if 0 ≤ (a0.length : Int) then (if (a0.length : Int) ≤ (a0.length : Int) then (if (a0.length : Int).toNat ≤ 11728124029610 then (laws_toCmdS.l6 k a0 0 (List.replicate (a0.length : Int).toNat z144)) else none) else none) else none
def laws_toCmdS.c : FnD := { f := 54, sh := false, ps := [.c (.sl T146)], pb := [], vc := .c (.own 0), bs := [.arr T144 .un], R := (List S144), fn := fun k x y => laws_toCmdS.f k x.1, out := fun y => ((), (y, ())), inn := fun d => d.2.1, inv := fun _ => rfl }
theorem laws_toCmdS.ok : laws_toCmdS.c.OK Tryz.prog :=
  FnD.of laws_toCmdS.c mix tok (fn := Tryz.f54) Tryz.func54 (by kernel_rfl) (fun _ _ => by kernel_rfl) (by kernel_rfl) (by kernel_rfl) [laws_toCmd.c] ⟨laws_toCmd.ok, trivial⟩
    [{ lbl := 6, live := [(0, none), (3, none), (4, none)], ms := [], vs := [.c (.sl false T146), .c (.own 0), .c (.int .i64)], bs := [.arr T144 .un], f := fun k x y => laws_toCmdS.l6 k x.1 x.2.2.1 y.1 }] { c := fun _ => none, ms := [], sh := false } rfl 5000 ⟨⟨fun _ _ => rfl, fun k x y => by kernel_rfl⟩, trivial⟩ (fun k x y => by kernel_rfl)

/-! ### loop.example/g00076/spec.CmdsFor: function 53 -/
def spec_CmdsFor.l12 : Nat → (List S144) → Int → S42 → (List S144) → (List Int) → Option ((List S144))
  | 0, _, _, _, _, _ => none
  | k + 1, x2, x9, y0, h1, h2 => if x9 < (x2.length : Int) then (if 0 ≤ x9 then (if x9 < (x2.length : Int) then (if (rd_T144 x2 x9).f0 = 0 then (if h1.length + ([(⟨(rd_T144 x2 x9).f0, (rd_T144 x2 x9).f1, 0⟩ : S144)] : List S144).length < 5864062014805 then (spec_CmdsFor.l12 k x2 (wrap64 (x9 + 1)) y0 (h1 ++ ([(⟨(rd_T144 x2 x9).f0, (rd_T144 x2 x9).f1, 0⟩ : S144)] : List S144)) h2) else none) else (if (rd_T144 x2 x9).f0 = 1 then ((spec_l01In.f ((rd_T144 x2 x9).f1) 0 (wrap64 ((y0.f8.length : Int) - 1))).bind fun t2 => (if t2 = true then (if 0 ≤ (rd_T144 x2 x9).f1 then (if (rd_T144 x2 x9).f1 < (y0.f8.length : Int) then ((spec_l20Has.f k h2 (rd y0.f8 ((rd_T144 x2 x9).f1))).bind fun t3 => (if t3 = true then (if h1.length + ([(rd_T144 x2 x9)] : List S144).length < 5864062014805 then (spec_CmdsFor.l12 k x2 (wrap64 (x9 + 1)) y0 (h1 ++ ([(rd_T144 x2 x9)] : List S144)) h2) else none) else (spec_CmdsFor.l12 k x2 (wrap64 (x9 + 1)) y0 h1 h2))) else none) else none) else (spec_CmdsFor.l12 k x2 (wrap64 (x9 + 1)) y0 h1 h2))) else (if (rd_T144 x2 x9).f0 = 2 then ((spec_l20Has.f k h2 ((rd_T144 x2 x9).f1)).bind fun t4 => (if t4 = true then (if h1.length + ([(⟨(rd_T144 x2 x9).f0, (rd_T144 x2 x9).f1, 0⟩ : S144)] : List S144).length < 5864062014805 then (spec_CmdsFor.l12 k x2 (wrap64 (x9 + 1)) y0 (h1 ++ ([(⟨(rd_T144 x2 x9).f0, (rd_T144 x2 x9).f1, 0⟩ : S144)] : List S144)) h2) else none) else (spec_CmdsFor.l12 k x2 (wrap64 (x9 + 1)) y0 h1 h2))) else (spec_CmdsFor.l12 k x2 (wrap64 (x9 + 1)) y0 h1 h2)))) else none) else none) else (some h1)
def spec_CmdsFor.f (k : Nat) (a0 : S42) (a1 : Int) (a2 : List S144) : Option ((List S144)) := (spec_Joined.f k a0 a1).bind fun t1 => (if (t1.length : Int) = 0 then (some ([] : List S144)) else (if (a2.length : Int) > 300 then (some ([] : List S144)) else (spec_CmdsFor.l12 k a2 0 a0 ([] : List S144) t1)))
def spec_CmdsFor.c : FnD := { f := 53, sh := false, ps := [.agg T42, .c (.int .i64), .c (.sl T144)], pb := [], vc := .c (.own 0), bs := [.arr T144 .un], R := (List S144), fn := fun k x y => spec_CmdsFor.f k x.1 x.2.1 x.2.2.1, out := fun y => ((), (y, ())), inn := fun d => d.2.1, inv := fun _ => rfl }
theorem spec_CmdsFor.ok : spec_CmdsFor.c.OK Tryz.prog :=
  FnD.of spec_CmdsFor.c mix tok (fn := Tryz.f53) Tryz.func53 (by kernel_rfl) (fun _ _ => by kernel_rfl) (by kernel_rfl) (by kernel_rfl) [spec_Joined.c, spec_l01In.c, spec_l20Has.c] ⟨spec_Joined.ok, ⟨spec_l01In.ok, ⟨spec_l20Has.ok, trivial⟩⟩⟩
    [{ lbl := 12, live := [(2, none), (3, none), (7, none), (8, none), (9, none)], ms := [], vs := [.c (.sl false T144), .c (.ptr 0 0), .c (.own 1), .c (.own 2), .c (.int .i64)], bs := [.cells 42 [.int .i64, .int .i64, .int .i64, .int .i64, .int .i64, .int .i64, .int .i64, .int .i64, .int .i64, .int .i64, .int .i64, .int .i64, .int .i64, .int .i64, .int .i64, .sl false T128, .sl false (.int .i64), .sl false T119, .sl false T140], .arr T144 .un, .arr (.int .i64) .un], f := fun k x y => spec_CmdsFor.l12 k x.1 x.2.2.2.2.1 (y.1.1, (y.1.2.1, y.1.2.2.1, y.1.2.2.2.1), y.1.2.2.2.2.1, (y.1.2.2.2.2.2.1, y.1.2.2.2.2.2.2.1, y.1.2.2.2.2.2.2.2.1, y.1.2.2.2.2.2.2.2.2.1, y.1.2.2.2.2.2.2.2.2.2.1, y.1.2.2.2.2.2.2.2.2.2.2.1, y.1.2.2.2.2.2.2.2.2.2.2.2.1), y.1.2.2.2.2.2.2.2.2.2.2.2.2.1, y.1.2.2.2.2.2.2.2.2.2.2.2.2.2.1, y.1.2.2.2.2.2.2.2.2.2.2.2.2.2.2.1, y.1.2.2.2.2.2.2.2.2.2.2.2.2.2.2.2.1, y.1.2.2.2.2.2.2.2.2.2.2.2.2.2.2.2.2.1, y.1.2.2.2.2.2.2.2.2.2.2.2.2.2.2.2.2.2.1, y.1.2.2.2.2.2.2.2.2.2.2.2.2.2.2.2.2.2.2.1) y.2.1 y.2.2.1 }] { c := fun _ => none, ms := [], sh := false } rfl 5000 ⟨⟨fun _ _ => rfl, fun k x y => by kernel_rfl⟩, trivial⟩ (fun k x y => by kernel_rfl)

/-! ### slices.Index[[]int,int]: function 203 -/
def slices_Index_203.l4 : Nat → (List Int) → Int → Int → Int → Option (Int)
  | 0, _, _, _, _ => none
  | k + 1, x0, x1, x7, x8 => if x8 < x7 then (if 0 ≤ x8 then (if x8 < (x0.length : Int) then (if x1 = (rd x0 x8) then (some x8) else (slices_Index_203.l4 k x0 x1 x7 (wrap64 (x8 + 1)))) else none) else none) else (some (-1))
def slices_Index_203.f (k : Nat) (a0 : List Int) (a1 : Int) : Option (Int) := slices_Index_203.l4 k a0 a1 (a0.length : Int) 0
def slices_Index_203.c : FnD := { f := 203, sh := false, ps := [.c (.sl (.int .i64)), .c (.int .i64)], pb := [], vc := .c (.int .i64), bs := [], R := Int, fn := fun k x y => slices_Index_203.f k x.1 x.2.1, out := fun y => (y, ()), inn := fun d => d.1, inv := fun _ => rfl }
theorem slices_Index_203.ok : slices_Index_203.c.OK Tryz.prog :=
  FnD.of slices_Index_203.c mix tok (fn := Tryz.f203) Tryz.func203 (by kernel_rfl) (fun _ _ => by kernel_rfl) (by kernel_rfl) (by kernel_rfl) [] trivial
    [{ lbl := 4, live := [(0, none), (1, none), (7, none), (8, none)], ms := [], vs := [.c (.sl false (.int .i64)), .c (.int .i64), .c (.int .i64), .c (.int .i64)], bs := [], f := fun k x y => slices_Index_203.l4 k x.1 x.2.1 x.2.2.1 x.2.2.2.1 }] { c := fun _ => none, ms := [], sh := false } rfl 5000 ⟨⟨fun _ _ => rfl, fun k x y => by kernel_rfl⟩, trivial⟩ (fun k x y => by kernel_rfl)

/-! ### slices.Contains[[]int,int]: function 167 -/
def slices_Contains_167.f (k : Nat) (a0 : List Int) (a1 : Int) : Option (Bool) := (slices_Index_203.f k a0 a1).bind fun t1 => (some (decide (t1 ≥ 0)))
def slices_Contains_167.c : FnD := { f := 167, sh := false, ps := [.c (.sl (.int .i64)), .c (.int .i64)], pb := [], vc := .c (.bool), bs := [], R := Bool, fn := fun k x y => slices_Contains_167.f k x.1 x.2.1, out := fun y => (y, ()), inn := fun d => d.1, inv := fun _ => rfl }
theorem slices_Contains_167.ok : slices_Contains_167.c.OK Tryz.prog :=
  FnD.of slices_Contains_167.c mix tok (fn := Tryz.f167) Tryz.func167 (by kernel_rfl) (fun _ _ => by kernel_rfl) (by kernel_rfl) (by kernel_rfl) [slices_Index_203.c] ⟨slices_Index_203.ok, trivial⟩
    [] { c := fun _ => none, ms := [], sh := false } rfl 5000 trivial (fun k x y => by kernel_rfl)

/-! ### loop.example/g00076/impl.cmdsFor: function 119 -/
def impl_cmdsFor.l8 : Nat → (List S144) → Int → Int → S42 → (List Int) → (List S144) → Option ((List S144))
  | 0, _, _, _, _, _, _ => none
  | k + 1, x14, x15, x16, y0, h1, h2 => if x16 < x15 then (if 0 ≤ x16 then (if x16 < (x14.length : Int) then (if (rd_T144 x14 x16).f0 = 0 then (if (rd_T144 x14 x16).f0 = 0 then (if h2.length + ([(⟨(rd_T144 x14 x16).f0, (rd_T144 x14 x16).f1, 0⟩ : S144)] : List S144).length < 5864062014805 then (impl_cmdsFor.l8 k x14 x15 (wrap64 (x16 + 1)) y0 h1 (h2 ++ ([(⟨(rd_T144 x14 x16).f0, (rd_T144 x14 x16).f1, 0⟩ : S144)] : List S144))) else none) else (if (rd_T144 x14 x16).f0 = 1 then ((impl_within.f ((rd_T144 x14 x16).f1) 0 (wrap64 ((y0.f8.length : Int) - 1))).bind fun t2 => (if t2 = true then (if 0 ≤ (rd_T144 x14 x16).f1 then (if (rd_T144 x14 x16).f1 < (y0.f8.length : Int) then ((slices_Contains_167.f k h1 (rd y0.f8 ((rd_T144 x14 x16).f1))).bind fun t3 => (if t3 = true then (if h2.length + ([(rd_T144 x14 x16)] : List S144).length < 5864062014805 then (impl_cmdsFor.l8 k x14 x15 (wrap64 (x16 + 1)) y0 h1 (h2 ++ ([(rd_T144 x14 x16)] : List S144))) else none) else (impl_cmdsFor.l8 k x14 x15 (wrap64 (x16 + 1)) y0 h1 h2))) else none) else none) else (impl_cmdsFor.l8 k x14 x15 (wrap64 (x16 + 1)) y0 h1 h2))) else (impl_cmdsFor.l8 k x14 x15 (wrap64 (x16 + 1)) y0 h1 h2))) else (if (rd_T144 x14 x16).f0 = 2 then ((slices_Contains_167.f k h1 ((rd_T144 x14 x16).f1)).bind fun t4 => (if t4 = true then (if h2.length + ([(⟨(rd_T144 x14 x16).f0, (rd_T144 x14 x16).f1, 0⟩ : S144)] : List S144).length < 5864062014805 then (impl_cmdsFor.l8 k x14 x15 (wrap64 (x16 + 1)) y0 h1 (h2 ++ ([(⟨(rd_T144 x14 x16).f0, (rd_T144 x14 x16).f1, 0⟩ : S144)] : List S144))) else none) else (if (rd_T144 x14 x16).f0 = 1 then ((impl_within.f ((rd_T144 x14 x16).f1) 0 (wrap64 ((y0.f8.length : Int) - 1))).bind fun t5 => (if t5 = true then (if 0 ≤ (rd_T144 x14 x16).f1 then (if (rd_T144 x14 x16).f1 < (y0.f8.length : Int) then ((slices_Contains_167.f k h1 (rd y0.f8 ((rd_T144 x14 x16).f1))).bind fun t6 => (if t6 = true then (if h2.length + ([(rd_T144 x14 x16)] : List S144).length < 5864062014805 then (impl_cmdsFor.l8 k x14 x15 (wrap64 (x16 + 1)) y0 h1 (h2 ++ ([(rd_T144 x14 x16)] : List S144))) else none) else (impl_cmdsFor.l8 k x14 x15 (wrap64 (x16 + 1)) y0 h1 h2))) else none) else none) else (impl_cmdsFor.l8 k x14 x15 (wrap64 (x16 + 1)) y0 h1 h2))) else (impl_cmdsFor.l8 k x14 x15 (wrap64 (x16 + 1)) y0 h1 h2)))) else (if (rd_T144 x14 x16).f0 = 1 then ((impl_within.f ((rd_T144 x14 x16).f1) 0 (wrap64 ((y0.f8.length : Int) - 1))).bind fun t7 => (if t7 = true then (if 0 ≤ (rd_T144 x14 x16).f1 then (if (rd_T144 x14 x16).f1 < (y0.f8.length : Int) then ((slices_Contains_167.f k h1 (rd y0.f8 ((rd_T144 x14 x16).f1))).bind fun t8 => (if t8 = true then (if h2.length + ([(rd_T144 x14 x16)] : List S144).length < 5864062014805 then (impl_cmdsFor.l8 k x14 x15 (wrap64 (x16 + 1)) y0 h1 (h2 ++ ([(rd_T144 x14 x16)] : List S144))) else none) else (impl_cmdsFor.l8 k x14 x15 (wrap64 (x16 + 1)) y0 h1 h2))) else none) else none) else (impl_cmdsFor.l8 k x14 x15 (wrap64 (x16 + 1)) y0 h1 h2))) else (impl_cmdsFor.l8 k x14 x15 (wrap64 (x16 + 1)) y0 h1 h2)))) else none) else none) else (some h2)
def impl_cmdsFor.f (k : Nat) (a0 : S42) (a1 : Int) (a2 : List S144) : Option ((List S144)) := (impl_joined.f k a0 a1).bind fun t1 => (impl_cmdsFor.l8 k a2 (a2.length : Int) 0 a0 t1 ([] : List S144))
def impl_cmdsFor.c : FnD := { f := 119, sh := false, ps := [.agg T42, .c (.int .i64), .c (.sl T144)], pb := [], vc := .c (.own 0), bs := [.arr T144 .un], R := (List S144), fn := fun k x y => impl_cmdsFor.f k x.1 x.2.1 x.2.2.1, out := fun y => ((), (y, ())), inn := fun d => d.2.1, inv := fun _ => rfl }
theorem impl_cmdsFor.ok : impl_cmdsFor.c.OK Tryz.prog :=
  FnD.of impl_cmdsFor.c mix tok (fn := Tryz.f119) Tryz.func119 (by kernel_rfl) (fun _ _ => by kernel_rfl) (by kernel_rfl) (by kernel_rfl) [impl_joined.c, impl_within.c, slices_Contains_167.c] ⟨impl_joined.ok, ⟨impl_within.ok, ⟨slices_Contains_167.ok, trivial⟩⟩⟩
    [{ lbl := 8, live := [(3, none), (7, none), (8, some (.row T144)), (14, none), (15, none), (16, none)], ms := [], vs := [.c (.ptr 0 0), .c (.own 1), .c (.own 2), .c (.sl false T144), .c (.int .i64), .c (.int .i64)], bs := [.cells 42 [.int .i64, .int .i64, .int .i64, .int .i64, .int .i64, .int .i64, .int .i64, .int .i64, .int .i64, .int .i64, .int .i64, .int .i64, .int .i64, .int .i64, .int .i64, .sl false T128, .sl false (.int .i64), .sl false T119, .sl false T140], .arr (.int .i64) .un, .arr T144 .un], f := fun k x y => impl_cmdsFor.l8 k x.2.2.2.1 x.2.2.2.2.1 x.2.2.2.2.2.1 (y.1.1, (y.1.2.1, y.1.2.2.1, y.1.2.2.2.1), y.1.2.2.2.2.1, (y.1.2.2.2.2.2.1, y.1.2.2.2.2.2.2.1, y.1.2.2.2.2.2.2.2.1, y.1.2.2.2.2.2.2.2.2.1, y.1.2.2.2.2.2.2.2.2.2.1, y.1.2.2.2.2.2.2.2.2.2.2.1, y.1.2.2.2.2.2.2.2.2.2.2.2.1), y.1.2.2.2.2.2.2.2.2.2.2.2.2.1, y.1.2.2.2.2.2.2.2.2.2.2.2.2.2.1, y.1.2.2.2.2.2.2.2.2.2.2.2.2.2.2.1, y.1.2.2.2.2.2.2.2.2.2.2.2.2.2.2.2.1, y.1.2.2.2.2.2.2.2.2.2.2.2.2.2.2.2.2.1, y.1.2.2.2.2.2.2.2.2.2.2.2.2.2.2.2.2.2.1, y.1.2.2.2.2.2.2.2.2.2.2.2.2.2.2.2.2.2.2.1) y.2.1 y.2.2.1 }] { c := fun _ => none, ms := [], sh := false } rfl 5000 ⟨⟨fun _ _ => rfl, fun k x y => by kernel_rfl⟩, trivial⟩ (fun k x y => by kernel_rfl)

/-! ### loop.example/g00076/impl.CmdsFor: function 55 -/
def impl_CmdsFor.f (k : Nat) (a0 : S42) (a1 : Int) (a2 : List S144) : Option ((List S144)) := (impl_isSound.f k a0).bind fun t1 => (if t1 = true then ((impl_within.f a1 0 (wrap64 ((a0.f7.length : Int) - 1))).bind fun t2 => (if t2 = true then (if (a2.length : Int) > 300 then (some ([] : List S144)) else ((impl_cmdsFor.f k a0 a1 a2).bind fun t3 => (some t3))) else (some ([] : List S144)))) else (some ([] : List S144)))
def impl_CmdsFor.c : FnD := { f := 55, sh := false, ps := [.agg T42, .c (.int .i64), .c (.sl T144)], pb := [], vc := .c (.own 0), bs := [.arr T144 .un], R := (List S144), fn := fun k x y => impl_CmdsFor.f k x.1 x.2.1 x.2.2.1, out := fun y => ((), (y, ())), inn := fun d => d.2.1, inv := fun _ => rfl }
theorem impl_CmdsFor.ok : impl_CmdsFor.c.OK Tryz.prog :=
  FnD.of impl_CmdsFor.c mix tok (fn := Tryz.f55) Tryz.func55 (by kernel_rfl) (fun _ _ => by kernel_rfl) (by kernel_rfl) (by kernel_rfl) [impl_isSound.c, impl_within.c, impl_cmdsFor.c] ⟨impl_isSound.ok, ⟨impl_within.ok, ⟨impl_cmdsFor.ok, trivial⟩⟩⟩
    [] { c := fun n => bif Nat.beq n 0 then some (.row T144) else  none, ms := [], sh := false } rfl 5000 trivial (fun k x y => by kernel_rfl)

/-! ### loop.example/g00076/laws.eqCmd: function 120 -/
def laws_eqCmd.f (a0 : S144) (a1 : S144) : Option (Bool) := if a0.f0 = a1.f0 then (if a0.f1 = a1.f1 then (if a0.f2 = a1.f2 then (some true) else (some false)) else (some false)) else (some false)
def laws_eqCmd.c : FnD := { f := 120, sh := false, ps := [.agg T144, .agg T144], pb := [], vc := .c (.bool), bs := [], R := Bool, fn := fun _ x y => laws_eqCmd.f x.1 x.2.1, out := fun y => (y, ()), inn := fun d => d.1, inv := fun _ => rfl }
theorem laws_eqCmd.ok : laws_eqCmd.c.OK Tryz.prog :=
  FnD.of laws_eqCmd.c mix tok (fn := Tryz.f120) Tryz.func120 (by kernel_rfl) (fun _ _ => by kernel_rfl) (by kernel_rfl) (by kernel_rfl) [] trivial
    [] { c := fun _ => none, ms := [], sh := false } rfl 5000 trivial (fun k x y => by kernel_rfl)

/-! ### loop.example/g00076/laws.eqCmdS: function 56 -/
def laws_eqCmdS.l8 : Nat → (List S144) → (List S144) → Int → Option (Bool)
  | 0, _, _, _ => none
  | k + 1, x0, x1, x5 => if x5 < (x0.length : Int) then (if 0 ≤ x5 then (if x5 < (x0.length : Int) then (if 0 ≤ x5 then (if x5 < (x1.length : Int) then ((laws_eqCmd.f (rd_T144 x0 x5) (rd_T144 x1 x5)).bind fun t1 => (if t1 = true then (laws_eqCmdS.l8 k x0 x1 (wrap64 (x5 + 1))) else (some false))) else none) else none) else none) else none) else (some true)
def laws_eqCmdS.f (k : Nat) (a0 : List S144) (a1 : List S144) : Option (Bool) := if (a0.length : Int) = (a1.length : Int) then (laws_eqCmdS.l8 k a0 a1 0) else (some false)
def laws_eqCmdS.c : FnD := { f := 56, sh := false, ps := [.c (.sl T144), .c (.sl T144)], pb := [], vc := .c (.bool), bs := [], R := Bool, fn := fun k x y => laws_eqCmdS.f k x.1 x.2.1, out := fun y => (y, ()), inn := fun d => d.1, inv := fun _ => rfl }
theorem laws_eqCmdS.ok : laws_eqCmdS.c.OK Tryz.prog :=
  FnD.of laws_eqCmdS.c mix tok (fn := Tryz.f56) Tryz.func56 (by kernel_rfl) (fun _ _ => by kernel_rfl) (by kernel_rfl) (by kernel_rfl) [laws_eqCmd.c] ⟨laws_eqCmd.ok, trivial⟩
    [{ lbl := 8, live := [(0, none), (1, none), (5, none)], ms := [], vs := [.c (.sl false T144), .c (.sl false T144), .c (.int .i64)], bs := [], f := fun k x y => laws_eqCmdS.l8 k x.1 x.2.1 x.2.2.1 }] { c := fun _ => none, ms := [], sh := false } rfl 5000 ⟨⟨fun _ _ => rfl, fun k x y => by kernel_rfl⟩, trivial⟩ (fun k x y => by kernel_rfl)

/-! ### loop.example/g00076/laws.markCmdS: function 57 -/
def laws_markCmdS_o1.l4 : Nat → Int → Int → (List S144) → Option (Int × (List S144))
  | 0, _, _, _ => none
  | k + 1, x1, x5, h0 => if x5 < (h0.length : Int) then (if 0 ≤ x5 then (if x5 < (h0.length : Int) then ((let q1 : List S144 := h0.set x5.toNat (⟨x1, (rd_T144 h0 x5).f1, (rd_T144 h0 x5).f2⟩ : S144); if 0 ≤ x5 then (if x5 < (q1.length : Int) then ((let q2 : List S144 := q1.set x5.toNat (⟨(rd_T144 q1 x5).f0, (wrap64 (x1 + 1)), (rd_T144 q1 x5).f2⟩ : S144); if 0 ≤ x5 then (if x5 < (q2.length : Int) then ((let q3 : List S144 := q2.set x5.toNat (⟨(rd_T144 q2 x5).f0, (rd_T144 q2 x5).f1, (IntKind.wrap .u32 ((wrap64 ((wrap64 (x1 + 1)) + 1))))⟩ : S144); laws_markCmdS_o1.l4 k (wrap64 ((wrap64 ((wrap64 (x1 + 1)) + 1)) + 1)) (wrap64 (x5 + 1)) q3)) else none) else none)) else none) else none)) else none) else none) else (some (x1, h0))
def laws_markCmdS_o1.f (k : Nat) (a1 : Int) (h0 : List S144) : Option (Int × (List S144)) := laws_markCmdS_o1.l4 k a1 0 h0
def laws_markCmdS_o1.c : FnD := { f := 57, sh := false, ps := [.vc (.c (.own 0)), .c (.int .i64)], pb := [.arr T144 .un], vc := .c (.int .i64), bs := [.arr T144 .un], R := Int × (List S144), fn := fun k x y => laws_markCmdS_o1.f k x.2.1 y.1, out := fun y => (y.1, (y.2, ())), inn := fun d => (d.1, d.2.1), inv := fun _ => rfl }
theorem laws_markCmdS_o1.ok : laws_markCmdS_o1.c.OK Tryz.prog :=
  FnD.of laws_markCmdS_o1.c mix tok (fn := Tryz.f57) Tryz.func57 (by kernel_rfl) (fun _ _ => by kernel_rfl) (by kernel_rfl) (by kernel_rfl) [] trivial
    [{ lbl := 4, live := [(0, none), (1, none), (5, none)], ms := [], vs := [.c (.own 0), .c (.int .i64), .c (.int .i64)], bs := [.arr T144 .un], f := fun k x y => laws_markCmdS_o1.l4 k x.2.1 x.2.2.1 y.1 }] { c := fun _ => none, ms := [], sh := false } rfl 5000 ⟨⟨fun _ _ => rfl, fun k x y => by kernel_rfl⟩, trivial⟩ (fun k x y => by kernel_rfl)

/-! ### loop.example/g00076/laws.heldCmdS: function 58 -/
def laws_heldCmdS.l4 : Nat → (List S144) → Int → Int → Option (Int)
  | 0, _, _, _ => none
  | k + 1, x0, x1, x5 => if x5 < (x0.length : Int) then (if 0 ≤ x5 then (if x5 < (x0.length : Int) then (if (rd_T144 x0 x5).f0 = x1 then (if 0 ≤ x5 then (if x5 < (x0.length : Int) then (if (rd_T144 x0 x5).f1 = (wrap64 (x1 + 1)) then (if 0 ≤ x5 then (if x5 < (x0.length : Int) then (if (rd_T144 x0 x5).f2 = (IntKind.wrap .u32 ((wrap64 ((wrap64 (x1 + 1)) + 1)))) then (laws_heldCmdS.l4 k x0 (wrap64 ((wrap64 ((wrap64 (x1 + 1)) + 1)) + 1)) (wrap64 (x5 + 1))) else (some (-1))) else none) else none) else (some (-1))) else none) else none) else (some (-1))) else none) else none) else (some x1)
def laws_heldCmdS.f (k : Nat) (a0 : List S144) (a1 : Int) : Option (Int) := laws_heldCmdS.l4 k a0 a1 0
def laws_heldCmdS.c : FnD := { f := 58, sh := false, ps := [.c (.sl T144), .c (.int .i64)], pb := [], vc := .c (.int .i64), bs := [], R := Int, fn := fun k x y => laws_heldCmdS.f k x.1 x.2.1, out := fun y => (y, ()), inn := fun d => d.1, inv := fun _ => rfl }
theorem laws_heldCmdS.ok : laws_heldCmdS.c.OK Tryz.prog :=
  FnD.of laws_heldCmdS.c mix tok (fn := Tryz.f58) Tryz.func58 (by kernel_rfl) (fun _ _ => by kernel_rfl) (by kernel_rfl) (by kernel_rfl) [] trivial
    [{ lbl := 4, live := [(0, none), (1, none), (5, none)], ms := [], vs := [.c (.sl false T144), .c (.int .i64), .c (.int .i64)], bs := [], f := fun k x y => laws_heldCmdS.l4 k x.1 x.2.1 x.2.2.1 }] { c := fun _ => none, ms := [], sh := false } rfl 5000 ⟨⟨fun _ _ => rfl, fun k x y => by kernel_rfl⟩, trivial⟩ (fun k x y => by kernel_rfl)

/-! ### loop.example/g00076/laws.FnExactCmdsFor: function 10 -/
def laws_FnExactCmdsFor.f (k : Nat) (a0 : S31) (a1 : Int) (a2 : List S146) : Option (Bool) := (laws_szTables.f k a0 1048576).bind fun t1 => (if t1 < 0 then (some true) else ((laws_szCmdS.f a2 t1).bind fun t2 => (if t2 < 0 then (some true) else ((laws_toTables.f k a0).bind fun t3 => ((laws_toCmdS.f k a2).bind fun t4 => ((spec_CmdsFor.f k t3 a1 t4).bind fun t5 => ((laws_toTables.f k a0).bind fun t6 => ((laws_toCmdS.f k a2).bind fun t7 => ((impl_CmdsFor.f k t6 a1 t7).bind fun t8 => ((laws_eqCmdS.f k t8 t5).bind fun t9 => (if t9 = true then ((laws_toTables.f k a0).bind fun t10 => ((laws_eqTables.f k t6 t10).bind fun t11 => (if t11 = true then ((laws_toCmdS.f k a2).bind fun t12 => ((laws_eqCmdS.f k t7 t12).bind fun t13 => (if t13 = true then ((laws_markTables_o1.f k t6.f0 t6.f1.f0 t6.f1.f1 t6.f1.f2 t6.f2 t6.f3.f0 t6.f3.f1 t6.f3.f2 t6.f3.f3 t6.f3.f4 t6.f3.f5 t6.f3.f6 t6.f4 t6.f5 t6.f6 1 t6.f7 t6.f8 t6.f9 t6.f10).bind fun t14 => ((laws_markCmdS_o1.f k t14.1 t7).bind fun t15 => (if t15.1 < 0 then (some false) else ((laws_eqCmdS.f k t8 t5).bind fun t16 => (if t16 = true then ((laws_markCmdS_o1.f k 1 t8).bind fun t17 => ((laws_heldCmdS.f k t17.2 1).bind fun t18 => (if t18 < 0 then (some false) else (if t18 = t17.1 then ((laws_toTables.f k a0).bind fun t19 => ((laws_toCmdS.f k a2).bind fun t20 => ((impl_CmdsFor.f k t19 a1 t20).bind fun t21 => ((laws_eqCmdS.f k t21 t5).bind fun t22 => (if t22 = true then ((laws_heldCmdS.f k t17.2 1).bind fun t23 => (if t23 < 0 then (some false) else (if t23 = t17.1 then (some true) else (some false)))) else (some false)))))) else (some false))))) else (some false)))))) else (some false)))) else (some false)))) else (some false))))))))))))
def laws_FnExactCmdsFor.c : FnD := { f := 10, sh := false, ps := [.agg T31, .c (.int .i64), .c (.sl T146)], pb := [], vc := .c (.bool), bs := [], R := Bool, fn := fun k x y => laws_FnExactCmdsFor.f k x.1 x.2.1 x.2.2.1, out := fun y => (y, ()), inn := fun d => d.1, inv := fun _ => rfl }
theorem laws_FnExactCmdsFor.ok : laws_FnExactCmdsFor.c.OK Tryz.prog :=
  FnD.of laws_FnExactCmdsFor.c mix tok (fn := Tryz.f10) Tryz.func10 (by kernel_rfl) (fun _ _ => by kernel_rfl) (by kernel_rfl) (by kernel_rfl) [laws_markTables_o1.c, laws_markCmdS_o1.c, laws_szTables.c, laws_szCmdS.c, laws_toTables.c, laws_toCmdS.c, spec_CmdsFor.c, impl_CmdsFor.c, laws_eqCmdS.c, laws_eqTables.c, laws_heldCmdS.c] ⟨laws_markTables_o1.ok, ⟨laws_markCmdS_o1.ok, ⟨laws_szTables.ok, ⟨laws_szCmdS.ok, ⟨laws_toTables.ok, ⟨laws_toCmdS.ok, ⟨spec_CmdsFor.ok, ⟨impl_CmdsFor.ok, ⟨laws_eqCmdS.ok, ⟨laws_eqTables.ok, ⟨laws_heldCmdS.ok, trivial⟩⟩⟩⟩⟩⟩⟩⟩⟩⟩⟩
    [] { c := fun _ => none, ms := [], sh := false } rfl 5000 trivial (fun k x y => by kernel_rfl)

/-! ### loop.example/g00076/laws.szByteS: function 152 -/
def laws_szByteS.f (a0 : List Int) (a1 : Int) : Option (Int) := if (wrap64 (a1 - (a0.length : Int))) < 0 then (some (-1)) else (some (wrap64 (a1 - (a0.length : Int))))
def laws_szByteS.c : FnD := { f := 152, sh := false, ps := [.c (.sl (.int .u8)), .c (.int .i64)], pb := [], vc := .c (.int .i64), bs := [], R := Int, fn := fun _ x y => laws_szByteS.f x.1 x.2.1, out := fun y => (y, ()), inn := fun d => d.1, inv := fun _ => rfl }
theorem laws_szByteS.ok : laws_szByteS.c.OK Tryz.prog :=
  FnD.of laws_szByteS.c mix tok (fn := Tryz.f152) Tryz.func152 (by kernel_rfl) (fun _ _ => by kernel_rfl) (by kernel_rfl) (by kernel_rfl) [] trivial
    [] { c := fun _ => none, ms := [], sh := false } rfl 5000 trivial (fun k x y => by kernel_rfl)

/-! ### loop.example/g00076/laws.szByteSS: function 90 -/
def laws_szByteSS.l10 : Nat → (List (List Int)) → Int → Int → Option (Int)
  | 0, _, _, _ => none
  | k + 1, x0, x1, x5 => if x5 < (x0.length : Int) then (if 0 ≤ x5 then (if x5 < (x0.length : Int) then ((laws_szByteS.f (rd_ListInt x0 x5) x1).bind fun t1 => (if t1 < 0 then (some (-1)) else (laws_szByteSS.l10 k x0 t1 (wrap64 (x5 + 1))))) else none) else none) else (some x1)
def laws_szByteSS.f (k : Nat) (a0 : List (List Int)) (a1 : Int) : Option (Int) := if (wrap64 (a1 - (a0.length : Int))) < 0 then (some (-1)) else (laws_szByteSS.l10 k a0 (wrap64 (a1 - (a0.length : Int))) 0)
def laws_szByteSS.c : FnD := { f := 90, sh := false, ps := [.c (.sl (.sl (.int .u8))), .c (.int .i64)], pb := [], vc := .c (.int .i64), bs := [], R := Int, fn := fun k x y => laws_szByteSS.f k x.1 x.2.1, out := fun y => (y, ()), inn := fun d => d.1, inv := fun _ => rfl }
theorem laws_szByteSS.ok : laws_szByteSS.c.OK Tryz.prog :=
  FnD.of laws_szByteSS.c mix tok (fn := Tryz.f90) Tryz.func90 (by kernel_rfl) (fun _ _ => by kernel_rfl) (by kernel_rfl) (by kernel_rfl) [laws_szByteS.c] ⟨laws_szByteS.ok, trivial⟩
    [{ lbl := 10, live := [(0, none), (1, none), (5, none)], ms := [], vs := [.c (.sl false (.sl (.int .u8))), .c (.int .i64), .c (.int .i64)], bs := [], f := fun k x y => laws_szByteSS.l10 k x.1 x.2.1 x.2.2.1 }] { c := fun _ => none, ms := [], sh := false } rfl 5000 ⟨⟨fun _ _ => rfl, fun k x y => by kernel_rfl⟩, trivial⟩ (fun k x y => by kernel_rfl)

/-! ### loop.example/g00076/laws.szByteSSS: function 23 -/
def laws_szByteSSS.l10 : Nat → (List (List (List Int))) → Int → Int → Option (Int)
  | 0, _, _, _ => none
  | k + 1, x0, x1, x5 => if x5 < (x0.length : Int) then (if 0 ≤ x5 then (if x5 < (x0.length : Int) then ((laws_szByteSS.f k (rd_ListListInt x0 x5) x1).bind fun t1 => (if t1 < 0 then (some (-1)) else (laws_szByteSSS.l10 k x0 t1 (wrap64 (x5 + 1))))) else none) else none) else (some x1)
def laws_szByteSSS.f (k : Nat) (a0 : List (List (List Int))) (a1 : Int) : Option (Int) := if (wrap64 (a1 - (a0.length : Int))) < 0 then (some (-1)) else (laws_szByteSSS.l10 k a0 (wrap64 (a1 - (a0.length : Int))) 0)
def laws_szByteSSS.c : FnD := { f := 23, sh := false, ps := [.c (.sl (.sl (.sl (.int .u8)))), .c (.int .i64)], pb := [], vc := .c (.int .i64), bs := [], R := Int, fn := fun k x y => laws_szByteSSS.f k x.1 x.2.1, out := fun y => (y, ()), inn := fun d => d.1, inv := fun _ => rfl }
theorem laws_szByteSSS.ok : laws_szByteSSS.c.OK Tryz.prog :=
  FnD.of laws_szByteSSS.c mix tok (fn := Tryz.f23) Tryz.func23 (by kernel_rfl) (fun _ _ => by kernel_rfl) (by kernel_rfl) (by kernel_rfl) [laws_szByteSS.c] ⟨laws_szByteSS.ok, trivial⟩
    [{ lbl := 10, live := [(0, none), (1, none), (5, none)], ms := [], vs := [.c (.sl false (.sl (.sl (.int .u8)))), .c (.int .i64), .c (.int .i64)], bs := [], f := fun k x y => laws_szByteSSS.l10 k x.1 x.2.1 x.2.2.1 }] { c := fun _ => none, ms := [], sh := false } rfl 5000 ⟨⟨fun _ _ => rfl, fun k x y => by kernel_rfl⟩, trivial⟩ (fun k x y => by kernel_rfl)

/-! ### loop.example/g00076/laws.toByteS: function 153 -/
def laws_toByteS.l6 : Nat → (List Int) → Int → (List Int) → Option ((List Int))
  | 0, _, _, _ => none
  | k + 1, x0, x4, h0 => if x4 < (x0.length : Int) then (if 0 ≤ x4 then (if x4 < (x0.length : Int) then (if 0 ≤ x4 then (if x4 < (h0.length : Int) then (laws_toByteS.l6 k x0 (wrap64 (x4 + 1)) (h0.set x4.toNat (rd x0 x4))) else none) else none) else none) else none) else (some h0)
def laws_toByteS.f (k : Nat) (a0 : List Int) : Option ((List Int)) := if 0 ≤ (a0.length : Int) then (if (a0.length : Int) ≤ (a0.length : Int) then (if (a0.length : Int).toNat ≤ 281474976710656 then (laws_toByteS.l6 k a0 0 (List.replicate (a0.length : Int).toNat 0)) else none) else none) else none
def laws_toByteS.c : FnD := { f := 153, sh := false, ps := [.c (.sl (.int .u8))], pb := [], vc := .c (.own 0), bs := [.arr (.int .u8) .un], R := (List Int), fn := fun k x y => laws_toByteS.f k x.1, out := fun y => ((), (y, ())), inn := fun d => d.2.1, inv := fun _ => rfl }
theorem laws_toByteS.ok : laws_toByteS.c.OK Tryz.prog :=
  FnD.of laws_toByteS.c mix tok (fn := Tryz.f153) Tryz.func153 (by kernel_rfl) (fun _ _ => by kernel_rfl) (by kernel_rfl) (by kernel_rfl) [] trivial
    [{ lbl := 6, live := [(0, none), (3, none), (4, none)], ms := [], vs := [.c (.sl false (.int .u8)), .c (.own 0), .c (.int .i64)], bs := [.arr (.int .u8) .un], f := fun k x y => laws_toByteS.l6 k x.1 x.2.2.1 y.1 }] { c := fun _ => none, ms := [], sh := false } rfl 5000 ⟨⟨fun _ _ => rfl, fun k x y => by kernel_rfl⟩, trivial⟩ (fun k x y => by kernel_rfl)

/-! ### loop.example/g00076/laws.toByteSS: function 92 -/
def laws_toByteSS.l6 : Nat → (List (List Int)) → Int → (List (List Int)) → Option ((List (List Int)))
  | 0, _, _, _ => none
  | k + 1, x0, x4, h0 => if x4 < (x0.length : Int) then (if 0 ≤ x4 then (if x4 < (x0.length : Int) then ((laws_toByteS.f k (rd_ListInt x0 x4)).bind fun t1 => (if 0 ≤ x4 then (if x4 < (h0.length : Int) then (laws_toByteSS.l6 k x0 (wrap64 (x4 + 1)) (h0.set x4.toNat t1)) else none) else none)) else none) else none) else (some h0)
def laws_toByteSS.f (k : Nat) (a0 : List (List Int)) : Option ((List (List Int))) := if 0 ≤ (a0.length : Int) then (if (a0.length : Int) ≤ (a0.length : Int) then (if (a0.length : Int).toNat ≤ 11728124029610 then (laws_toByteSS.l6 k a0 0 (List.replicate (a0.length : Int).toNat ([] : List Int))) else none) else none) else none
def laws_toByteSS.c : FnD := { f := 92, sh := false, ps := [.c (.sl (.sl (.int .u8)))], pb := [], vc := .c (.own 0), bs := [.arr (.sl (.int .u8)) .un], R := (List (List Int)), fn := fun k x y => laws_toByteSS.f k x.1, out := fun y => ((), (y, ())), inn := fun d => d.2.1, inv := fun _ => rfl }
theorem laws_toByteSS.ok : laws_toByteSS.c.OK Tryz.prog :=
  FnD.of laws_toByteSS.c mix tok (fn := Tryz.f92) Tryz.func92 (by kernel_rfl) (fun _ _ => by kernel_rfl) (by kernel_rfl) (by kernel_rfl) [laws_toByteS.c] ⟨laws_toByteS.ok, trivial⟩
    [{ lbl := 6, live := [(0, none), (3, none), (4, none)], ms := [], vs := [.c (.sl false (.sl (.int .u8))), .c (.own 0), .c (.int .i64)], bs := [.arr (.sl (.int .u8)) .un], f := fun k x y => laws_toByteSS.l6 k x.1 x.2.2.1 y.1 }] { c := fun _ => none, ms := [], sh := false } rfl 5000 ⟨⟨fun _ _ => rfl, fun k x y => by kernel_rfl⟩, trivial⟩ (fun k x y => by kernel_rfl)

/-! ### loop.example/g00076/laws.toByteSSS: function 25 -/
def laws_toByteSSS.l6 : Nat → (List (List (List Int))) → Int → (List (List (List Int))) → Option ((List (List (List Int))))
  | 0, _, _, _ => none
  | k + 1, x0, x4, h0 => if x4 < (x0.length : Int) then (if 0 ≤ x4 then (if x4 < (x0.length : Int) then ((laws_toByteSS.f k (rd_ListListInt x0 x4)).bind fun t1 => (if 0 ≤ x4 then (if x4 < (h0.length : Int) then (laws_toByteSSS.l6 k x0 (wrap64 (x4 + 1)) (h0.set x4.toNat t1)) else none) else none)) else none) else none) else (some h0)
def laws_toByteSSS.f (k : Nat) (a0 : List (List (List Int))) : Option ((List (List (List Int)))) := if 0 ≤ (a0.length : Int) then (if (a0.length : Int) ≤ (a0.length : Int) then (if (a0.length : Int).toNat ≤ 11728124029610 then (laws_toByteSSS.l6 k a0 0 (List.replicate (a0.length : Int).toNat ([] : List (List Int)))) else none) else none) else none
def laws_toByteSSS.c : FnD := { f := 25, sh := false, ps := [.c (.sl (.sl (.sl (.int .u8))))], pb := [], vc := .c (.own 0), bs := [.arr (.sl (.sl (.int .u8))) .un], R := (List (List (List Int))), fn := fun k x y => laws_toByteSSS.f k x.1, out := fun y => ((), (y, ())), inn := fun d => d.2.1, inv := fun _ => rfl }
theorem laws_toByteSSS.ok : laws_toByteSSS.c.OK Tryz.prog :=
  FnD.of laws_toByteSSS.c mix tok (fn := Tryz.f25) Tryz.func25 (by kernel_rfl) (fun _ _ => by kernel_rfl) (by kernel_rfl) (by kernel_rfl) [laws_toByteSS.c] ⟨laws_toByteSS.ok, trivial⟩
    [{ lbl := 6, live := [(0, none), (3, none), (4, none)], ms := [], vs := [.c (.sl false (.sl (.sl (.int .u8)))), .c (.own 0), .c (.int .i64)], bs := [.arr (.sl (.sl (.int .u8))) .un], f := fun k x y => laws_toByteSSS.l6 k x.1 x.2.2.1 y.1 }] { c := fun _ => none, ms := [], sh := false } rfl 5000 ⟨⟨fun _ _ => rfl, fun k x y => by kernel_rfl⟩, trivial⟩ (fun k x y => by kernel_rfl)

/-! ### loop.example/g00076/spec.l17Fits: function 91 -/
def spec_l17Fits.l8 : Nat → Int → (List (List Int)) → Int → S42 → Option (Bool)
  | 0, _, _, _, _ => none
  | k + 1, x1, x2, x7, y0 => if x7 < (x2.length : Int) then (if 0 ≤ x7 then (if x7 < (x2.length : Int) then (if 0 ≤ x1 then (if x1 < (y0.f7.length : Int) then (if 0 ≤ x7 then (if x7 < (((rd_T128 y0.f7 x1).f3).length : Int) then (if ((rd_ListInt x2 x7).length : Int) = (rd_T131 ((rd_T128 y0.f7 x1).f3) x7).f1 then (spec_l17Fits.l8 k x1 x2 (wrap64 (x7 + 1)) y0) else (some false)) else none) else none) else none) else none) else none) else none) else (some true)
def spec_l17Fits.f (k : Nat) (a0 : S42) (a1 : Int) (a2 : List (List Int)) : Option (Bool) := (spec_l01In.f a1 0 (wrap64 ((a0.f7.length : Int) - 1))).bind fun t1 => (if t1 = true then (if 0 ≤ a1 then (if a1 < (a0.f7.length : Int) then (if (a2.length : Int) = (((rd_T128 a0.f7 a1).f3).length : Int) then (spec_l17Fits.l8 k a1 a2 0 a0) else (some false)) else none) else none) else (some false))
def spec_l17Fits.c : FnD := { f := 91, sh := false, ps := [.agg T42, .c (.int .i64), .c (.sl (.sl (.int .u8)))], pb := [], vc := .c (.bool), bs := [], R := Bool, fn := fun k x y => spec_l17Fits.f k x.1 x.2.1 x.2.2.1, out := fun y => (y, ()), inn := fun d => d.1, inv := fun _ => rfl }
theorem spec_l17Fits.ok : spec_l17Fits.c.OK Tryz.prog :=
  FnD.of spec_l17Fits.c mix tok (fn := Tryz.f91) Tryz.func91 (by kernel_rfl) (fun _ _ => by kernel_rfl) (by kernel_rfl) (by kernel_rfl) [spec_l01In.c] ⟨spec_l01In.ok, trivial⟩
    [{ lbl := 8, live := [(1, none), (2, none), (3, none), (7, none)], ms := [], vs := [.c (.int .i64), .c (.sl false (.sl (.int .u8))), .c (.ptr 0 0), .c (.int .i64)], bs := [.cells 42 [.int .i64, .int .i64, .int .i64, .int .i64, .int .i64, .int .i64, .int .i64, .int .i64, .int .i64, .int .i64, .int .i64, .int .i64, .int .i64, .int .i64, .int .i64, .sl false T128, .sl false (.int .i64), .sl false T119, .sl false T140]], f := fun k x y => spec_l17Fits.l8 k x.1 x.2.1 x.2.2.2.1 (y.1.1, (y.1.2.1, y.1.2.2.1, y.1.2.2.2.1), y.1.2.2.2.2.1, (y.1.2.2.2.2.2.1, y.1.2.2.2.2.2.2.1, y.1.2.2.2.2.2.2.2.1, y.1.2.2.2.2.2.2.2.2.1, y.1.2.2.2.2.2.2.2.2.2.1, y.1.2.2.2.2.2.2.2.2.2.2.1, y.1.2.2.2.2.2.2.2.2.2.2.2.1), y.1.2.2.2.2.2.2.2.2.2.2.2.2.1, y.1.2.2.2.2.2.2.2.2.2.2.2.2.2.1, y.1.2.2.2.2.2.2.2.2.2.2.2.2.2.2.1, y.1.2.2.2.2.2.2.2.2.2.2.2.2.2.2.2.1, y.1.2.2.2.2.2.2.2.2.2.2.2.2.2.2.2.2.1, y.1.2.2.2.2.2.2.2.2.2.2.2.2.2.2.2.2.2.1, y.1.2.2.2.2.2.2.2.2.2.2.2.2.2.2.2.2.2.2.1) }] { c := fun _ => none, ms := [], sh := false } rfl 5000 ⟨⟨fun _ _ => rfl, fun k x y => by kernel_rfl⟩, trivial⟩ (fun k x y => by kernel_rfl)

end Go.Proofs.YtgagpmiooeoodaaGreat.PTwo
