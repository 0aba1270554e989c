/- Go functions as Lean functions, each with its contract. -/
import Derived.Test.YtmdnpaekamkknaaGreatDoorQPsx2
set_option linter.unusedVariables false
set_option maxRecDepth 100000
namespace Go.Proofs.YtmdnpaekamkknaaGreatDoor.PPs
open Go Go.Proofs Go.RowKit Go.Proofs.YtmdnpaekamkknaaGreatDoor.V
noncomputable section
/-! ### loop.example/g00076/impl.depthOf: function 88 -/
def impl_depthOf.f (a0 : S98) : Option (Int) := some (mx 1 a0.f3)
def impl_depthOf.c : FnD := { f := 88, sh := false, ps := [.agg T98], pb := [], vc := .c (.int .i64), bs := [], R := Int, fn := fun _ x y => impl_depthOf.f x.1, out := fun y => (y, ()), inn := fun d => d.1, inv := fun _ => rfl }
theorem impl_depthOf.ok : impl_depthOf.c.OK Tryz.prog :=
  FnD.of impl_depthOf.c mix tok (fn := Tryz.f88) Tryz.func88 (by kernel_rfl) (fun _ _ => by kernel_rfl) (by kernel_rfl) (by kernel_rfl) [] trivial
    [] { c := fun _ => none, cc := [], ms := [], tn := [], sh := false, fm := [] } rfl 5000 trivial (fun k x y => by kernel_rfl)

/-! ### loop.example/g00076/impl.worstPad: function 58 -/
def impl_worstPad.l6 : Nat → Int → (List S98) → Int → Int → S38 → Option (Int)
  | 0, _, _, _, _, _ => none
  | k + 1, x7, x22, x23, x24, y0 => if x24 < x23 then (if 0 ≤ x24 then (if x24 < (x22.length : Int) then ((impl_depthOf.f (rd_T98 x22 x24)).bind fun t1 => (impl_worstPad.l6 k (wrap64 (x7 + (wrap64 (y0.f0 * t1)))) x22 x23 (wrap64 (x24 + 1)) y0)) else none) else none) else (some x7)
def impl_worstPad.f (k : Nat) (a0 : S38) (a1 : S37) (a2 : List S98) : Option (Int) := impl_worstPad.l6 k (wrap64 ((wrap64 (16 * a0.f0)) + (wrap64 ((wrap64 (a1.f0 * a1.f1)) * a0.f6)))) a2 (a2.length : Int) 0 a0
def impl_worstPad.c : FnD := { f := 58, sh := false, ps := [.agg T38, .agg T37, .c (.sl T98)], pb := [], vc := .c (.int .i64), bs := [], R := Int, fn := fun k x y => impl_worstPad.f k x.1 x.2.1 x.2.2.1, out := fun y => (y, ()), inn := fun d => d.1, inv := fun _ => rfl }
theorem impl_worstPad.ok : impl_worstPad.c.OK Tryz.prog :=
  FnD.of impl_worstPad.c mix tok (fn := Tryz.f58) Tryz.func58 (by kernel_rfl) (fun _ _ => by kernel_rfl) (by kernel_rfl) (by kernel_rfl) [impl_depthOf.c] ⟨impl_depthOf.ok, trivial⟩
    [{ lbl := 6, live := [(3, none), (7, none), (22, none), (23, none), (24, none)], ms := [], vs := [.c (.ptr 0 0), .c (.int .i64), .c (.sl false T98), .c (.int .i64), .c (.int .i64)], bs := [.cells 38 [.int .i64, .int .i64, .int .i64, .int .i64, .int .i64, .int .i64, .int .i64]], f := fun k x y => impl_worstPad.l6 k x.2.1 x.2.2.1 x.2.2.2.1 x.2.2.2.2.1 (y.1.1, y.1.2.1, y.1.2.2.1, y.1.2.2.2.1, y.1.2.2.2.2.1, y.1.2.2.2.2.2.1, y.1.2.2.2.2.2.2.1) }] { c := fun _ => none, cc := [], ms := [], tn := [], sh := false, fm := [] } rfl 5000 ⟨⟨fun _ _ => rfl, fun k x y => by kernel_rfl⟩, trivial⟩ (fun k x y => by kernel_rfl)

/-! ### loop.example/g00076/impl.isSlotAt: function 89 -/
def impl_isSlotAt.f (a0 : S43) (a1 : S102) (a2 : Int) : Option (Bool) := if a1.f2 > (wrap64 (a0.f4 + a0.f5)) then (if a1.f2 ≤ a0.f6 then (if a1.f1 ≥ a2 then (some (decide (a1.f1 ≤ (wrap64 (a0.f6 - a1.f2))))) else (some false)) else (some false)) else (some false)
def impl_isSlotAt.c : FnD := { f := 89, sh := false, ps := [.agg T43, .agg T102, .c (.int .i64)], pb := [], vc := .c (.bool), bs := [], R := Bool, fn := fun _ x y => impl_isSlotAt.f x.1 x.2.1 x.2.2.1, out := fun y => (y, ()), inn := fun d => d.1, inv := fun _ => rfl }
theorem impl_isSlotAt.ok : impl_isSlotAt.c.OK Tryz.prog :=
  FnD.of impl_isSlotAt.c mix tok (fn := Tryz.f89) Tryz.func89 (by kernel_rfl) (fun _ _ => by kernel_rfl) (by kernel_rfl) (by kernel_rfl) [] trivial
    [] { c := fun _ => none, cc := [], ms := [], tn := [], sh := false, fm := [] } rfl 5000 trivial (fun k x y => by kernel_rfl)

/-! ### loop.example/g00076/impl.areSlots: function 59 -/
def impl_areSlots.l6 : Nat → Int → (List S102) → Int → Int → S43 → Option (Bool)
  | 0, _, _, _, _, _ => none
  | k + 1, x3, x7, x8, x9, y0 => if x9 < x8 then (if 0 ≤ x9 then (if x9 < (x7.length : Int) then ((impl_within.f ((rd_T102 x7 x9).f0) 0 (wrap64 ((y0.f7.length : Int) - 1))).bind fun t1 => (if t1 = true then ((impl_isSlotAt.f y0 (rd_T102 x7 x9) x3).bind fun t2 => (if t2 = true then (impl_areSlots.l6 k (wrap64 (((rd_T102 x7 x9).f1) + ((rd_T102 x7 x9).f2))) x7 x8 (wrap64 (x9 + 1)) y0) else (some false))) else (some false))) else none) else none) else ((impl_within.f (y0.f10.length : Int) 1 16).bind fun t3 => (some t3))
def impl_areSlots.f (k : Nat) (a0 : S43) : Option (Bool) := impl_areSlots.l6 k 0 a0.f10 (a0.f10.length : Int) 0 a0
def impl_areSlots.c : FnD := { f := 59, sh := false, ps := [.agg T43], pb := [], vc := .c (.bool), bs := [], R := Bool, fn := fun k x y => impl_areSlots.f k x.1, out := fun y => (y, ()), inn := fun d => d.1, inv := fun _ => rfl }
theorem impl_areSlots.ok : impl_areSlots.c.OK Tryz.prog :=
  FnD.of impl_areSlots.c mix tok (fn := Tryz.f59) Tryz.func59 (by kernel_rfl) (fun _ _ => by kernel_rfl) (by kernel_rfl) (by kernel_rfl) [impl_within.c, impl_isSlotAt.c] ⟨impl_within.ok, ⟨impl_isSlotAt.ok, trivial⟩⟩
    [{ lbl := 6, live := [(1, none), (3, none), (7, none), (8, none), (9, none)], ms := [], vs := [.c (.ptr 0 0), .c (.int .i64), .c (.sl false T102), .c (.int .i64), .c (.int .i64)], bs := [.cells 43 [.int .i64, .int .i64, .int .i64, .int .i64, .int .i64, .int .i64, .int .i64, .int .i64, .int .i64, .int .i64, .int .i64, .int .i64, .int .i64, .int .i64, .int .i64, .sl false T64, .sl false (.int .i64), .sl false T98, .sl false T102]], f := fun k x y => impl_areSlots.l6 k x.2.1 x.2.2.1 x.2.2.2.1 x.2.2.2.2.1 (y.1.1, (y.1.2.1, y.1.2.2.1, y.1.2.2.2.1), y.1.2.2.2.2.1, (y.1.2.2.2.2.2.1, y.1.2.2.2.2.2.2.1, y.1.2.2.2.2.2.2.2.1, y.1.2.2.2.2.2.2.2.2.1, y.1.2.2.2.2.2.2.2.2.2.1, y.1.2.2.2.2.2.2.2.2.2.2.1, y.1.2.2.2.2.2.2.2.2.2.2.2.1), y.1.2.2.2.2.2.2.2.2.2.2.2.2.1, y.1.2.2.2.2.2.2.2.2.2.2.2.2.2.1, y.1.2.2.2.2.2.2.2.2.2.2.2.2.2.2.1, y.1.2.2.2.2.2.2.2.2.2.2.2.2.2.2.2.1, y.1.2.2.2.2.2.2.2.2.2.2.2.2.2.2.2.2.1, y.1.2.2.2.2.2.2.2.2.2.2.2.2.2.2.2.2.2.1, y.1.2.2.2.2.2.2.2.2.2.2.2.2.2.2.2.2.2.2.1) }] { c := fun _ => none, cc := [], ms := [], tn := [], sh := false, fm := [] } rfl 5000 ⟨⟨fun _ _ => rfl, fun k x y => by kernel_rfl⟩, trivial⟩ (fun k x y => by kernel_rfl)

/-! ### loop.example/g00076/impl.isSound: function 26 -/
def impl_isSound.f (k : Nat) (a0 : S43) : Option (Bool) := (impl_isMem.f a0.f0).bind fun t1 => (if t1 = true then ((impl_isShape.f a0.f1).bind fun t2 => (if t2 = true then ((impl_within.f a0.f2 1 8).bind fun t3 => (if t3 = true then ((impl_areCosts.f k a0.f3).bind fun t4 => (if t4 = true then ((impl_isSpan.f a0.f4).bind fun t5 => (if t5 = true then ((impl_isSpan.f a0.f5).bind fun t6 => (if t6 = true then ((impl_isSpan.f a0.f6).bind fun t7 => (if t7 = true then ((impl_worstStep.f k a0.f3).bind fun t8 => (if a0.f5 < t8 then (some false) else ((impl_within.f (a0.f7.length : Int) 1 6).bind fun t9 => (if t9 = true then ((impl_areParts.f k a0).bind fun t10 => (if t10 = true then (if (a0.f8.length : Int) > 8 then (some false) else ((slices_ContainsFunc_53_54.f k a0.f8 (a0.f7.length : Int)).bind fun t11 => (if t11 = true then (some false) else (if (a0.f9.length : Int) > 8 then (some false) else ((slices_ContainsFunc_55_56.f k a0.f9 (a0.f7.length : Int)).bind fun t12 => (if t12 = true then (some false) else ((impl_worstPad.f k a0.f3 a0.f1 a0.f9).bind fun t13 => (if a0.f4 < t13 then (some false) else ((impl_areSlots.f k a0).bind fun t14 => (some t14)))))))))) else (some false))) else (some false))))) else (some false))) else (some false))) else (some false))) else (some false))) else (some false))) else (some false))) else (some false))
def impl_isSound.c : FnD := { f := 26, sh := false, ps := [.agg T43], pb := [], vc := .c (.bool), bs := [], R := Bool, fn := fun k x y => impl_isSound.f k x.1, out := fun y => (y, ()), inn := fun d => d.1, inv := fun _ => rfl }
theorem impl_isSound.ok : impl_isSound.c.OK Tryz.prog :=
  FnD.of impl_isSound.c mix tok (fn := Tryz.f26) Tryz.func26 (by kernel_rfl) (fun _ _ => by kernel_rfl) (by kernel_rfl) (by kernel_rfl) [impl_isMem.c, impl_isShape.c, impl_within.c, impl_areCosts.c, impl_isSpan.c, impl_worstStep.c, impl_areParts.c, slices_ContainsFunc_53_54.c, slices_ContainsFunc_55_56.c, impl_worstPad.c, impl_areSlots.c] ⟨impl_isMem.ok, ⟨impl_isShape.ok, ⟨impl_within.ok, ⟨impl_areCosts.ok, ⟨impl_isSpan.ok, ⟨impl_worstStep.ok, ⟨impl_areParts.ok, ⟨slices_ContainsFunc_53_54.ok, ⟨slices_ContainsFunc_55_56.ok, ⟨impl_worstPad.ok, ⟨impl_areSlots.ok, trivial⟩⟩⟩⟩⟩⟩⟩⟩⟩⟩⟩
    [] { c := fun _ => none, cc := [], ms := [], tn := [], sh := false, fm := [] } rfl 5000 trivial (fun k x y => by kernel_rfl)

/-! ### strconv.Itoa: function 108 (by hand) -/
noncomputable def strconv_Itoa.f (a0 : Int) : Option (ByteArray) := itoaF a0
noncomputable abbrev strconv_Itoa.c : FnD := itoaC
theorem strconv_Itoa.ok : strconv_Itoa.c.OK Tryz.prog := itoaC_ok

/-! ### loop.example/g00076/impl.DecText: function 90 -/
def impl_DecText.f (a0 : Int) : Option (ByteArray) := (strconv_Itoa.f a0).bind fun t1 => (some t1)
def impl_DecText.c : FnD := { f := 90, sh := false, ps := [.c (.int .i64)], pb := [], vc := .c (.str), bs := [], R := ByteArray, fn := fun _ x y => impl_DecText.f x.1, out := fun y => (y, ()), inn := fun d => d.1, inv := fun _ => rfl }
theorem impl_DecText.ok : impl_DecText.c.OK Tryz.prog :=
  FnD.of impl_DecText.c mix tok (fn := Tryz.f90) Tryz.func90 (by kernel_rfl) (fun _ _ => by kernel_rfl) (by kernel_rfl) (by kernel_rfl) [strconv_Itoa.c] ⟨strconv_Itoa.ok, trivial⟩
    [] { c := fun _ => none, cc := [], ms := [], tn := [], sh := false, fm := [] } rfl 5000 trivial (fun k x y => by kernel_rfl)

/-! ### loop.example/g00076/impl.confLine: function 60 -/
def impl_confLine.l4 : Nat → ByteArray → (List Int) → Int → Int → Option (ByteArray)
  | 0, _, _, _, _ => none
  | k + 1, x0, x7, x8, x9 => if x9 < x8 then (if 0 ≤ x9 then (if x9 < (x7.length : Int) then ((impl_DecText.f (rd x7 x9)).bind fun t1 => (if (ByteArray.mk #[32]).size + t1.size ≤ 9223372036854775807 then (if x0.size + ((ByteArray.mk #[32]) ++ t1).size ≤ 9223372036854775807 then (impl_confLine.l4 k (x0 ++ ((ByteArray.mk #[32]) ++ t1)) x7 x8 (wrap64 (x9 + 1))) else none) else none)) else none) else none) else (if x0.size + (ByteArray.mk #[10]).size ≤ 9223372036854775807 then (some (x0 ++ (ByteArray.mk #[10]))) else none)
def impl_confLine.f (k : Nat) (a0 : ByteArray) (a1 : List Int) : Option (ByteArray) := impl_confLine.l4 k a0 a1 (a1.length : Int) 0
def impl_confLine.c : FnD := { f := 60, sh := false, ps := [.c .str, .c (.sl (.int .i64))], pb := [], vc := .c (.str), bs := [], R := ByteArray, fn := fun k x y => impl_confLine.f k x.1 x.2.1, out := fun y => (y, ()), inn := fun d => d.1, inv := fun _ => rfl }
theorem impl_confLine.ok : impl_confLine.c.OK Tryz.prog :=
  FnD.of impl_confLine.c mix tok (fn := Tryz.f60) Tryz.func60 (by kernel_rfl) (fun _ _ => by kernel_rfl) (by kernel_rfl) (by kernel_rfl) [impl_DecText.c] ⟨impl_DecText.ok, trivial⟩
    [{ lbl := 4, live := [(0, none), (7, none), (8, none), (9, none)], ms := [], vs := [.c (.str), .c (.sl false (.int .i64)), .c (.int .i64), .c (.int .i64)], bs := [], f := fun k x y => impl_confLine.l4 k x.1 x.2.1 x.2.2.1 x.2.2.2.1 }] { c := fun _ => none, cc := [], ms := [], tn := [], sh := false, fm := [] } rfl 5000 ⟨⟨fun _ _ => rfl, fun k x y => by kernel_rfl⟩, trivial⟩ (fun k x y => by kernel_rfl)

/-! ### loop.example/g00076/impl.isCycle: function 61 -/
def impl_isCycle.f (a0 : Int) : Option (Bool) := (impl_within.f a0 0 50000).bind fun t1 => (some t1)
def impl_isCycle.c : FnD := { f := 61, sh := false, ps := [.c (.int .i64)], pb := [], vc := .c (.bool), bs := [], R := Bool, fn := fun _ x y => impl_isCycle.f x.1, out := fun y => (y, ()), inn := fun d => d.1, inv := fun _ => rfl }
theorem impl_isCycle.ok : impl_isCycle.c.OK Tryz.prog :=
  FnD.of impl_isCycle.c mix tok (fn := Tryz.f61) Tryz.func61 (by kernel_rfl) (fun _ _ => by kernel_rfl) (by kernel_rfl) (by kernel_rfl) [impl_within.c] ⟨impl_within.ok, trivial⟩
    [] { c := fun _ => none, cc := [], ms := [], tn := [], sh := false, fm := [] } rfl 5000 trivial (fun k x y => by kernel_rfl)

/-! ### loop.example/g00076/impl.printCmd: function 27 -/
def impl_printCmd.f (k : Nat) (a0 : S43) (a1 : S57) : Option (ByteArray) := if a1.f0 = 1 then ((impl_within.f a1.f1 0 7).bind fun t1 => (if t1 = true then ((impl_confLine.f k (ByteArray.mk #[105, 110, 112, 117, 116]) ([a1.f1, (wrap64 (a1.f2))] : List Int)).bind fun t2 => (some t2)) else (if a1.f2 = 0 then (if a1.f0 = 0 then ((impl_isCycle.f a1.f1).bind fun t3 => (if t3 = true then ((impl_confLine.f k (ByteArray.mk #[114, 117, 110]) ([a1.f1] : List Int)).bind fun t4 => (some t4)) else (if a1.f0 = 2 then ((impl_within.f a1.f1 0 (wrap64 ((a0.f7.length : Int) - 1))).bind fun t5 => (if t5 = true then (if 0 ≤ a1.f1 then (if a1.f1 < (a0.f7.length : Int) then (if (ByteArray.mk #[114, 101, 115, 116, 97, 114, 116, 32]).size + ((rd_T64 a0.f7 a1.f1).f0).size ≤ 9223372036854775807 then (if ((ByteArray.mk #[114, 101, 115, 116, 97, 114, 116, 32]) ++ ((rd_T64 a0.f7 a1.f1).f0)).size + (ByteArray.mk #[10]).size ≤ 9223372036854775807 then (some (((ByteArray.mk #[114, 101, 115, 116, 97, 114, 116, 32]) ++ ((rd_T64 a0.f7 a1.f1).f0)) ++ (ByteArray.mk #[10]))) else none) else none) else none) else none) else (some (ByteArray.mk #[])))) else (some (ByteArray.mk #[]))))) else (if a1.f0 = 2 then ((impl_within.f a1.f1 0 (wrap64 ((a0.f7.length : Int) - 1))).bind fun t6 => (if t6 = true then (if 0 ≤ a1.f1 then (if a1.f1 < (a0.f7.length : Int) then (if (ByteArray.mk #[114, 101, 115, 116, 97, 114, 116, 32]).size + ((rd_T64 a0.f7 a1.f1).f0).size ≤ 9223372036854775807 then (if ((ByteArray.mk #[114, 101, 115, 116, 97, 114, 116, 32]) ++ ((rd_T64 a0.f7 a1.f1).f0)).size + (ByteArray.mk #[10]).size ≤ 9223372036854775807 then (some (((ByteArray.mk #[114, 101, 115, 116, 97, 114, 116, 32]) ++ ((rd_T64 a0.f7 a1.f1).f0)) ++ (ByteArray.mk #[10]))) else none) else none) else none) else none) else (some (ByteArray.mk #[])))) else (some (ByteArray.mk #[])))) else (some (ByteArray.mk #[]))))) else (if a1.f2 = 0 then (if a1.f0 = 0 then ((impl_isCycle.f a1.f1).bind fun t7 => (if t7 = true then ((impl_confLine.f k (ByteArray.mk #[114, 117, 110]) ([a1.f1] : List Int)).bind fun t8 => (some t8)) else (if a1.f0 = 2 then ((impl_within.f a1.f1 0 (wrap64 ((a0.f7.length : Int) - 1))).bind fun t9 => (if t9 = true then (if 0 ≤ a1.f1 then (if a1.f1 < (a0.f7.length : Int) then (if (ByteArray.mk #[114, 101, 115, 116, 97, 114, 116, 32]).size + ((rd_T64 a0.f7 a1.f1).f0).size ≤ 9223372036854775807 then (if ((ByteArray.mk #[114, 101, 115, 116, 97, 114, 116, 32]) ++ ((rd_T64 a0.f7 a1.f1).f0)).size + (ByteArray.mk #[10]).size ≤ 9223372036854775807 then (some (((ByteArray.mk #[114, 101, 115, 116, 97, 114, 116, 32]) ++ ((rd_T64 a0.f7 a1.f1).f0)) ++ (ByteArray.mk #[10]))) else none) else none) else none) else none) else (some (ByteArray.mk #[])))) else (some (ByteArray.mk #[]))))) else (if a1.f0 = 2 then ((impl_within.f a1.f1 0 (wrap64 ((a0.f7.length : Int) - 1))).bind fun t10 => (if t10 = true then (if 0 ≤ a1.f1 then (if a1.f1 < (a0.f7.length : Int) then (if (ByteArray.mk #[114, 101, 115, 116, 97, 114, 116, 32]).size + ((rd_T64 a0.f7 a1.f1).f0).size ≤ 9223372036854775807 then (if ((ByteArray.mk #[114, 101, 115, 116, 97, 114, 116, 32]) ++ ((rd_T64 a0.f7 a1.f1).f0)).size + (ByteArray.mk #[10]).size ≤ 9223372036854775807 then (some (((ByteArray.mk #[114, 101, 115, 116, 97, 114, 116, 32]) ++ ((rd_T64 a0.f7 a1.f1).f0)) ++ (ByteArray.mk #[10]))) else none) else none) else none) else none) else (some (ByteArray.mk #[])))) else (some (ByteArray.mk #[])))) else (some (ByteArray.mk #[])))
def impl_printCmd.c : FnD := { f := 27, sh := false, ps := [.agg T43, .agg T57], pb := [], vc := .c (.str), bs := [], R := ByteArray, fn := fun k x y => impl_printCmd.f k x.1 x.2.1, out := fun y => (y, ()), inn := fun d => d.1, inv := fun _ => rfl }
theorem impl_printCmd.ok : impl_printCmd.c.OK Tryz.prog :=
  FnD.of impl_printCmd.c mix tok (fn := Tryz.f27) Tryz.func27 (by kernel_rfl) (fun _ _ => by kernel_rfl) (by kernel_rfl) (by kernel_rfl) [impl_within.c, impl_confLine.c, impl_isCycle.c] ⟨impl_within.ok, ⟨impl_confLine.ok, ⟨impl_isCycle.ok, trivial⟩⟩⟩
    [] { c := fun _ => none, cc := [], ms := [], tn := [], sh := false, fm := [] } rfl 5000 trivial (fun k x y => by kernel_rfl)

/-! ### loop.example/g00076/impl.PrintScript: function 9 -/
def impl_PrintScript.l10 : Nat → (List S57) → Int → Int → S43 → ByteArray → Option (ByteArray × Bool)
  | 0, _, _, _, _, _ => none
  | k + 1, x18, x19, x20, y0, h1 => if x20 < x19 then (if 0 ≤ x20 then (if x20 < (x18.length : Int) then ((impl_printCmd.f k y0 (rd_T57 x18 x20)).bind fun t2 => (if t2 = (ByteArray.mk #[]) then (some ((ByteArray.mk #[]), false)) else (if h1.size + t2.size ≤ 140737488355328 then (impl_PrintScript.l10 k x18 x19 (wrap64 (x20 + 1)) y0 (h1 ++ t2)) else none))) else none) else none) else (some (h1, true))
def impl_PrintScript.f (k : Nat) (a0 : S43) (a1 : List S57) : Option (ByteArray × Bool) := (impl_isSound.f k a0).bind fun t1 => (if t1 = true then (if (a1.length : Int) > 300 then (some ((ByteArray.mk #[]), false)) else (impl_PrintScript.l10 k a1 (a1.length : Int) 0 a0 ByteArray.empty)) else (some ((ByteArray.mk #[]), false)))
def impl_PrintScript.c : FnD := { f := 9, sh := false, ps := [.agg T43, .c (.sl T57)], pb := [], vc := .tup [(false, [.str]), (false, [.bool])], bs := [], R := ByteArray × Bool, fn := fun k x y => impl_PrintScript.f k x.1 x.2.1, out := fun y => (((y.1, ()), (y.2, ()), ()), ()), inn := fun d => (d.1.1.1, d.1.2.1.1), inv := fun _ => rfl }
theorem impl_PrintScript.ok : impl_PrintScript.c.OK Tryz.prog :=
  FnD.ofB impl_PrintScript.c mix tok (some bw) bldOK (fn := Tryz.f9) Tryz.func9 (by kernel_rfl) (fun _ _ => by kernel_rfl) (by kernel_rfl) (by kernel_rfl) [impl_isSound.c, impl_printCmd.c] ⟨impl_isSound.ok, ⟨impl_printCmd.ok, trivial⟩⟩
    [{ lbl := 10, live := [(2, none), (6, none), (18, none), (19, none), (20, none)], ms := [], vs := [.c (.ptr 0 0), .c (.ptr 1 0), .c (.sl false T57), .c (.int .i64), .c (.int .i64)], bs := [.cells 43 [.int .i64, .int .i64, .int .i64, .int .i64, .int .i64, .int .i64, .int .i64, .int .i64, .int .i64, .int .i64, .int .i64, .int .i64, .int .i64, .int .i64, .int .i64, .sl false T64, .sl false (.int .i64), .sl false T98, .sl false T102], .bld 76 5], f := fun k x y => impl_PrintScript.l10 k x.2.2.1 x.2.2.2.1 x.2.2.2.2.1 (y.1.1, (y.1.2.1, y.1.2.2.1, y.1.2.2.2.1), y.1.2.2.2.2.1, (y.1.2.2.2.2.2.1, y.1.2.2.2.2.2.2.1, y.1.2.2.2.2.2.2.2.1, y.1.2.2.2.2.2.2.2.2.1, y.1.2.2.2.2.2.2.2.2.2.1, y.1.2.2.2.2.2.2.2.2.2.2.1, y.1.2.2.2.2.2.2.2.2.2.2.2.1), y.1.2.2.2.2.2.2.2.2.2.2.2.2.1, y.1.2.2.2.2.2.2.2.2.2.2.2.2.2.1, y.1.2.2.2.2.2.2.2.2.2.2.2.2.2.2.1, y.1.2.2.2.2.2.2.2.2.2.2.2.2.2.2.2.1, y.1.2.2.2.2.2.2.2.2.2.2.2.2.2.2.2.2.1, y.1.2.2.2.2.2.2.2.2.2.2.2.2.2.2.2.2.2.1, y.1.2.2.2.2.2.2.2.2.2.2.2.2.2.2.2.2.2.2.1) y.2.1 }] { c := fun _ => none, cc := [], ms := [], tn := [], sh := false, fm := [] } rfl 5000 ⟨⟨fun _ _ => rfl, fun k x y => by kernel_rfl⟩, trivial⟩ (fun k x y => by kernel_rfl)

/-! ### loop.example/g00076/laws.eqShape: function 30 -/
def laws_eqShape.f (a0 : S37) (a1 : S37) : Option (Bool) := if a0.f0 = a1.f0 then (if a0.f1 = a1.f1 then (if a0.f2 = a1.f2 then (some true) else (some false)) else (some false)) else (some false)
def laws_eqShape.c : FnD := { f := 30, sh := false, ps := [.agg T37, .agg T37], pb := [], vc := .c (.bool), bs := [], R := Bool, fn := fun _ x y => laws_eqShape.f x.1 x.2.1, out := fun y => (y, ()), inn := fun d => d.1, inv := fun _ => rfl }
theorem laws_eqShape.ok : laws_eqShape.c.OK Tryz.prog :=
  FnD.of laws_eqShape.c mix tok (fn := Tryz.f30) Tryz.func30 (by kernel_rfl) (fun _ _ => by kernel_rfl) (by kernel_rfl) (by kernel_rfl) [] trivial
    [] { c := fun _ => none, cc := [], ms := [], tn := [], sh := false, fm := [] } rfl 5000 trivial (fun k x y => by kernel_rfl)

/-! ### loop.example/g00076/laws.eqCosts: function 31 -/
def laws_eqCosts.f (a0 : S38) (a1 : S38) : Option (Bool) := if a0.f0 = a1.f0 then (if a0.f1 = a1.f1 then (if a0.f2 = a1.f2 then (if a0.f3 = a1.f3 then (if a0.f4 = a1.f4 then (if a0.f5 = a1.f5 then (if a0.f6 = a1.f6 then (some true) else (some false)) else (some false)) else (some false)) else (some false)) else (some false)) else (some false)) else (some false)
def laws_eqCosts.c : FnD := { f := 31, sh := false, ps := [.agg T38, .agg T38], pb := [], vc := .c (.bool), bs := [], R := Bool, fn := fun _ x y => laws_eqCosts.f x.1 x.2.1, out := fun y => (y, ()), inn := fun d => d.1, inv := fun _ => rfl }
theorem laws_eqCosts.ok : laws_eqCosts.c.OK Tryz.prog :=
  FnD.of laws_eqCosts.c mix tok (fn := Tryz.f31) Tryz.func31 (by kernel_rfl) (fun _ _ => by kernel_rfl) (by kernel_rfl) (by kernel_rfl) [] trivial
    [] { c := fun _ => none, cc := [], ms := [], tn := [], sh := false, fm := [] } rfl 5000 trivial (fun k x y => by kernel_rfl)

/-! ### loop.example/g00076/laws.eqPolicy: function 92 -/
def laws_eqPolicy.f (a0 : S61) (a1 : S61) : Option (Bool) := if a0.f0 = a1.f0 then (if a0.f1 = a1.f1 then (some true) else (some false)) else (some false)
def laws_eqPolicy.c : FnD := { f := 92, sh := false, ps := [.agg T61, .agg T61], pb := [], vc := .c (.bool), bs := [], R := Bool, fn := fun _ x y => laws_eqPolicy.f x.1 x.2.1, out := fun y => (y, ()), inn := fun d => d.1, inv := fun _ => rfl }
theorem laws_eqPolicy.ok : laws_eqPolicy.c.OK Tryz.prog :=
  FnD.of laws_eqPolicy.c mix tok (fn := Tryz.f92) Tryz.func92 (by kernel_rfl) (fun _ _ => by kernel_rfl) (by kernel_rfl) (by kernel_rfl) [] trivial
    [] { c := fun _ => none, cc := [], ms := [], tn := [], sh := false, fm := [] } rfl 5000 trivial (fun k x y => by kernel_rfl)

/-! ### loop.example/g00076/laws.eqWindow: function 109 -/
def laws_eqWindow.f (a0 : S122) (a1 : S122) : Option (Bool) := if a0.f0 = a1.f0 then (if a0.f1 = a1.f1 then (if a0.f2 = a1.f2 then (some true) else (some false)) else (some false)) else (some false)
def laws_eqWindow.c : FnD := { f := 109, sh := false, ps := [.agg T122, .agg T122], pb := [], vc := .c (.bool), bs := [], R := Bool, fn := fun _ x y => laws_eqWindow.f x.1 x.2.1, out := fun y => (y, ()), inn := fun d => d.1, inv := fun _ => rfl }
theorem laws_eqWindow.ok : laws_eqWindow.c.OK Tryz.prog :=
  FnD.of laws_eqWindow.c mix tok (fn := Tryz.f109) Tryz.func109 (by kernel_rfl) (fun _ _ => by kernel_rfl) (by kernel_rfl) (by kernel_rfl) [] trivial
    [] { c := fun _ => none, cc := [], ms := [], tn := [], sh := false, fm := [] } rfl 5000 trivial (fun k x y => by kernel_rfl)

/-! ### loop.example/g00076/laws.eqWindowS: function 93 -/
def laws_eqWindowS.l8 : Nat → (List S122) → (List S122) → Int → Option (Bool)
  | 0, _, _, _ => none
  | k + 1, x0, x1, x5 => if x5 < (x0.length : Int) then (if 0 ≤ x5 then (if x5 < (x0.length : Int) then (if 0 ≤ x5 then (if x5 < (x1.length : Int) then ((laws_eqWindow.f (rd_T122 x0 x5) (rd_T122 x1 x5)).bind fun t1 => (if t1 = true then (laws_eqWindowS.l8 k x0 x1 (wrap64 (x5 + 1))) else (some false))) else none) else none) else none) else none) else (some true)
def laws_eqWindowS.f (k : Nat) (a0 : List S122) (a1 : List S122) : Option (Bool) := if (a0.length : Int) = (a1.length : Int) then (laws_eqWindowS.l8 k a0 a1 0) else (some false)
def laws_eqWindowS.c : FnD := { f := 93, sh := false, ps := [.c (.sl T122), .c (.sl T122)], pb := [], vc := .c (.bool), bs := [], R := Bool, fn := fun k x y => laws_eqWindowS.f k x.1 x.2.1, out := fun y => (y, ()), inn := fun d => d.1, inv := fun _ => rfl }
theorem laws_eqWindowS.ok : laws_eqWindowS.c.OK Tryz.prog :=
  FnD.of laws_eqWindowS.c mix tok (fn := Tryz.f93) Tryz.func93 (by kernel_rfl) (fun _ _ => by kernel_rfl) (by kernel_rfl) (by kernel_rfl) [laws_eqWindow.c] ⟨laws_eqWindow.ok, trivial⟩
    [{ lbl := 8, live := [(0, none), (1, none), (5, none)], ms := [], vs := [.c (.sl false T122), .c (.sl false T122), .c (.int .i64)], bs := [], f := fun k x y => laws_eqWindowS.l8 k x.1 x.2.1 x.2.2.1 }] { c := fun _ => none, cc := [], ms := [], tn := [], sh := false, fm := [] } rfl 5000 ⟨⟨fun _ _ => rfl, fun k x y => by kernel_rfl⟩, trivial⟩ (fun k x y => by kernel_rfl)

/-! ### loop.example/g00076/laws.eqPartRow: function 63 -/
def laws_eqPartRow.f (k : Nat) (a0 : S64) (a1 : S64) : Option (Bool) := if a0.f0 = a1.f0 then (if a0.f1 = a1.f1 then ((laws_eqPolicy.f a0.f2 a1.f2).bind fun t1 => (if t1 = true then ((laws_eqWindowS.f k a0.f3 a1.f3).bind fun t2 => (if t2 = true then (some true) else (some false))) else (some false))) else (some false)) else (some false)
def laws_eqPartRow.c : FnD := { f := 63, sh := false, ps := [.agg T64, .agg T64], pb := [], vc := .c (.bool), bs := [], R := Bool, fn := fun k x y => laws_eqPartRow.f k x.1 x.2.1, out := fun y => (y, ()), inn := fun d => d.1, inv := fun _ => rfl }
theorem laws_eqPartRow.ok : laws_eqPartRow.c.OK Tryz.prog :=
  FnD.of laws_eqPartRow.c mix tok (fn := Tryz.f63) Tryz.func63 (by kernel_rfl) (fun _ _ => by kernel_rfl) (by kernel_rfl) (by kernel_rfl) [laws_eqPolicy.c, laws_eqWindowS.c] ⟨laws_eqPolicy.ok, ⟨laws_eqWindowS.ok, trivial⟩⟩
    [] { c := fun _ => none, cc := [], ms := [], tn := [], sh := false, fm := [] } rfl 5000 trivial (fun k x y => by kernel_rfl)

/-! ### loop.example/g00076/laws.eqPartRowS: function 32 -/
def laws_eqPartRowS.l8 : Nat → (List S64) → (List S64) → Int → Option (Bool)
  | 0, _, _, _ => none
  | k + 1, x0, x1, x5 => if x5 < (x0.length : Int) then (if 0 ≤ x5 then (if x5 < (x0.length : Int) then (if 0 ≤ x5 then (if x5 < (x1.length : Int) then ((laws_eqPartRow.f k (rd_T64 x0 x5) (rd_T64 x1 x5)).bind fun t1 => (if t1 = true then (laws_eqPartRowS.l8 k x0 x1 (wrap64 (x5 + 1))) else (some false))) else none) else none) else none) else none) else (some true)
def laws_eqPartRowS.f (k : Nat) (a0 : List S64) (a1 : List S64) : Option (Bool) := if (a0.length : Int) = (a1.length : Int) then (laws_eqPartRowS.l8 k a0 a1 0) else (some false)
def laws_eqPartRowS.c : FnD := { f := 32, sh := false, ps := [.c (.sl T64), .c (.sl T64)], pb := [], vc := .c (.bool), bs := [], R := Bool, fn := fun k x y => laws_eqPartRowS.f k x.1 x.2.1, out := fun y => (y, ()), inn := fun d => d.1, inv := fun _ => rfl }
theorem laws_eqPartRowS.ok : laws_eqPartRowS.c.OK Tryz.prog :=
  FnD.of laws_eqPartRowS.c mix tok (fn := Tryz.f32) Tryz.func32 (by kernel_rfl) (fun _ _ => by kernel_rfl) (by kernel_rfl) (by kernel_rfl) [laws_eqPartRow.c] ⟨laws_eqPartRow.ok, trivial⟩
    [{ lbl := 8, live := [(0, none), (1, none), (5, none)], ms := [], vs := [.c (.sl false T64), .c (.sl false T64), .c (.int .i64)], bs := [], f := fun k x y => laws_eqPartRowS.l8 k x.1 x.2.1 x.2.2.1 }] { c := fun _ => none, cc := [], ms := [], tn := [], sh := false, fm := [] } rfl 5000 ⟨⟨fun _ _ => rfl, fun k x y => by kernel_rfl⟩, trivial⟩ (fun k x y => by kernel_rfl)

/-! ### loop.example/g00076/laws.eqIntS: function 33 -/
def laws_eqIntS.l8 : Nat → (List Int) → (List Int) → Int → Option (Bool)
  | 0, _, _, _ => none
  | k + 1, x0, x1, x5 => if x5 < (x0.length : Int) then (if 0 ≤ x5 then (if x5 < (x0.length : Int) then (if 0 ≤ x5 then (if x5 < (x1.length : Int) then (if (rd x0 x5) = (rd x1 x5) then (laws_eqIntS.l8 k x0 x1 (wrap64 (x5 + 1))) else (some false)) else none) else none) else none) else none) else (some true)
def laws_eqIntS.f (k : Nat) (a0 : List Int) (a1 : List Int) : Option (Bool) := if (a0.length : Int) = (a1.length : Int) then (laws_eqIntS.l8 k a0 a1 0) else (some false)
def laws_eqIntS.c : FnD := { f := 33, sh := false, ps := [.c (.sl (.int .i64)), .c (.sl (.int .i64))], pb := [], vc := .c (.bool), bs := [], R := Bool, fn := fun k x y => laws_eqIntS.f k x.1 x.2.1, out := fun y => (y, ()), inn := fun d => d.1, inv := fun _ => rfl }
theorem laws_eqIntS.ok : laws_eqIntS.c.OK Tryz.prog :=
  FnD.of laws_eqIntS.c mix tok (fn := Tryz.f33) Tryz.func33 (by kernel_rfl) (fun _ _ => by kernel_rfl) (by kernel_rfl) (by kernel_rfl) [] trivial
    [{ lbl := 8, live := [(0, none), (1, none), (5, none)], ms := [], vs := [.c (.sl false (.int .i64)), .c (.sl false (.int .i64)), .c (.int .i64)], bs := [], f := fun k x y => laws_eqIntS.l8 k x.1 x.2.1 x.2.2.1 }] { c := fun _ => none, cc := [], ms := [], tn := [], sh := false, fm := [] } rfl 5000 ⟨⟨fun _ _ => rfl, fun k x y => by kernel_rfl⟩, trivial⟩ (fun k x y => by kernel_rfl)

/-! ### loop.example/g00076/laws.eqChanRow: function 64 -/
def laws_eqChanRow.f (a0 : S98) (a1 : S98) : Option (Bool) := if a0.f0 = a1.f0 then (if a0.f1 = a1.f1 then (if a0.f2 = a1.f2 then (if a0.f3 = a1.f3 then (some true) else (some false)) else (some false)) else (some false)) else (some false)
def laws_eqChanRow.c : FnD := { f := 64, sh := false, ps := [.agg T98, .agg T98], pb := [], vc := .c (.bool), bs := [], R := Bool, fn := fun _ x y => laws_eqChanRow.f x.1 x.2.1, out := fun y => (y, ()), inn := fun d => d.1, inv := fun _ => rfl }
theorem laws_eqChanRow.ok : laws_eqChanRow.c.OK Tryz.prog :=
  FnD.of laws_eqChanRow.c mix tok (fn := Tryz.f64) Tryz.func64 (by kernel_rfl) (fun _ _ => by kernel_rfl) (by kernel_rfl) (by kernel_rfl) [] trivial
    [] { c := fun _ => none, cc := [], ms := [], tn := [], sh := false, fm := [] } rfl 5000 trivial (fun k x y => by kernel_rfl)

/-! ### loop.example/g00076/laws.eqChanRowS: function 34 -/
def laws_eqChanRowS.l8 : Nat → (List S98) → (List S98) → Int → Option (Bool)
  | 0, _, _, _ => none
  | k + 1, x0, x1, x5 => if x5 < (x0.length : Int) then (if 0 ≤ x5 then (if x5 < (x0.length : Int) then (if 0 ≤ x5 then (if x5 < (x1.length : Int) then ((laws_eqChanRow.f (rd_T98 x0 x5) (rd_T98 x1 x5)).bind fun t1 => (if t1 = true then (laws_eqChanRowS.l8 k x0 x1 (wrap64 (x5 + 1))) else (some false))) else none) else none) else none) else none) else (some true)
def laws_eqChanRowS.f (k : Nat) (a0 : List S98) (a1 : List S98) : Option (Bool) := if (a0.length : Int) = (a1.length : Int) then (laws_eqChanRowS.l8 k a0 a1 0) else (some false)
def laws_eqChanRowS.c : FnD := { f := 34, sh := false, ps := [.c (.sl T98), .c (.sl T98)], pb := [], vc := .c (.bool), bs := [], R := Bool, fn := fun k x y => laws_eqChanRowS.f k x.1 x.2.1, out := fun y => (y, ()), inn := fun d => d.1, inv := fun _ => rfl }
theorem laws_eqChanRowS.ok : laws_eqChanRowS.c.OK Tryz.prog :=
  FnD.of laws_eqChanRowS.c mix tok (fn := Tryz.f34) Tryz.func34 (by kernel_rfl) (fun _ _ => by kernel_rfl) (by kernel_rfl) (by kernel_rfl) [laws_eqChanRow.c] ⟨laws_eqChanRow.ok, trivial⟩
    [{ lbl := 8, live := [(0, none), (1, none), (5, none)], ms := [], vs := [.c (.sl false T98), .c (.sl false T98), .c (.int .i64)], bs := [], f := fun k x y => laws_eqChanRowS.l8 k x.1 x.2.1 x.2.2.1 }] { c := fun _ => none, cc := [], ms := [], tn := [], sh := false, fm := [] } rfl 5000 ⟨⟨fun _ _ => rfl, fun k x y => by kernel_rfl⟩, trivial⟩ (fun k x y => by kernel_rfl)

/-! ### loop.example/g00076/laws.eqSlot: function 65 -/
def laws_eqSlot.f (a0 : S102) (a1 : S102) : Option (Bool) := if a0.f0 = a1.f0 then (if a0.f1 = a1.f1 then (if a0.f2 = a1.f2 then (some true) else (some false)) else (some false)) else (some false)
def laws_eqSlot.c : FnD := { f := 65, sh := false, ps := [.agg T102, .agg T102], pb := [], vc := .c (.bool), bs := [], R := Bool, fn := fun _ x y => laws_eqSlot.f x.1 x.2.1, out := fun y => (y, ()), inn := fun d => d.1, inv := fun _ => rfl }
theorem laws_eqSlot.ok : laws_eqSlot.c.OK Tryz.prog :=
  FnD.of laws_eqSlot.c mix tok (fn := Tryz.f65) Tryz.func65 (by kernel_rfl) (fun _ _ => by kernel_rfl) (by kernel_rfl) (by kernel_rfl) [] trivial
    [] { c := fun _ => none, cc := [], ms := [], tn := [], sh := false, fm := [] } rfl 5000 trivial (fun k x y => by kernel_rfl)

/-! ### loop.example/g00076/laws.eqSlotS: function 35 -/
def laws_eqSlotS.l8 : Nat → (List S102) → (List S102) → Int → Option (Bool)
  | 0, _, _, _ => none
  | k + 1, x0, x1, x5 => if x5 < (x0.length : Int) then (if 0 ≤ x5 then (if x5 < (x0.length : Int) then (if 0 ≤ x5 then (if x5 < (x1.length : Int) then ((laws_eqSlot.f (rd_T102 x0 x5) (rd_T102 x1 x5)).bind fun t1 => (if t1 = true then (laws_eqSlotS.l8 k x0 x1 (wrap64 (x5 + 1))) else (some false))) else none) else none) else none) else none) else (some true)
def laws_eqSlotS.f (k : Nat) (a0 : List S102) (a1 : List S102) : Option (Bool) := if (a0.length : Int) = (a1.length : Int) then (laws_eqSlotS.l8 k a0 a1 0) else (some false)
def laws_eqSlotS.c : FnD := { f := 35, sh := false, ps := [.c (.sl T102), .c (.sl T102)], pb := [], vc := .c (.bool), bs := [], R := Bool, fn := fun k x y => laws_eqSlotS.f k x.1 x.2.1, out := fun y => (y, ()), inn := fun d => d.1, inv := fun _ => rfl }
theorem laws_eqSlotS.ok : laws_eqSlotS.c.OK Tryz.prog :=
  FnD.of laws_eqSlotS.c mix tok (fn := Tryz.f35) Tryz.func35 (by kernel_rfl) (fun _ _ => by kernel_rfl) (by kernel_rfl) (by kernel_rfl) [laws_eqSlot.c] ⟨laws_eqSlot.ok, trivial⟩
    [{ lbl := 8, live := [(0, none), (1, none), (5, none)], ms := [], vs := [.c (.sl false T102), .c (.sl false T102), .c (.int .i64)], bs := [], f := fun k x y => laws_eqSlotS.l8 k x.1 x.2.1 x.2.2.1 }] { c := fun _ => none, cc := [], ms := [], tn := [], sh := false, fm := [] } rfl 5000 ⟨⟨fun _ _ => rfl, fun k x y => by kernel_rfl⟩, trivial⟩ (fun k x y => by kernel_rfl)

/-! ### loop.example/g00076/laws.eqTables: function 10 -/
def laws_eqTables.f (k : Nat) (a0 : S43) (a1 : S43) : Option (Bool) := if a0.f0 = a1.f0 then ((laws_eqShape.f a0.f1 a1.f1).bind fun t1 => (if t1 = true then (if a0.f2 = a1.f2 then ((laws_eqCosts.f a0.f3 a1.f3).bind fun t2 => (if t2 = true then (if a0.f4 = a1.f4 then (if a0.f5 = a1.f5 then (if a0.f6 = a1.f6 then ((laws_eqPartRowS.f k a0.f7 a1.f7).bind fun t3 => (if t3 = true then ((laws_eqIntS.f k a0.f8 a1.f8).bind fun t4 => (if t4 = true then ((laws_eqChanRowS.f k a0.f9 a1.f9).bind fun t5 => (if t5 = true then ((laws_eqSlotS.f k a0.f10 a1.f10).bind fun t6 => (if t6 = true then (some true) else (some false))) else (some false))) else (some false))) else (some false))) else (some false)) else (some false)) else (some false)) else (some false))) else (some false)) else (some false))) else (some false)
def laws_eqTables.c : FnD := { f := 10, sh := false, ps := [.agg T43, .agg T43], pb := [], vc := .c (.bool), bs := [], R := Bool, fn := fun k x y => laws_eqTables.f k x.1 x.2.1, out := fun y => (y, ()), inn := fun d => d.1, inv := fun _ => rfl }
theorem laws_eqTables.ok : laws_eqTables.c.OK Tryz.prog :=
  FnD.of laws_eqTables.c mix tok (fn := Tryz.f10) Tryz.func10 (by kernel_rfl) (fun _ _ => by kernel_rfl) (by kernel_rfl) (by kernel_rfl) [laws_eqShape.c, laws_eqCosts.c, laws_eqPartRowS.c, laws_eqIntS.c, laws_eqChanRowS.c, laws_eqSlotS.c] ⟨laws_eqShape.ok, ⟨laws_eqCosts.ok, ⟨laws_eqPartRowS.ok, ⟨laws_eqIntS.ok, ⟨laws_eqChanRowS.ok, ⟨laws_eqSlotS.ok, trivial⟩⟩⟩⟩⟩⟩
    [] { c := fun _ => none, cc := [], ms := [], tn := [], sh := false, fm := [] } rfl 5000 trivial (fun k x y => by kernel_rfl)

/-! ### loop.example/g00076/laws.eqCmd: function 36 -/
def laws_eqCmd.f (a0 : S57) (a1 : S57) : Option (Bool) := if a0.f0 = a1.f0 then (if a0.f1 = a1.f1 then (if a0.f2 = a1.f2 then (some true) else (some false)) else (some false)) else (some false)
def laws_eqCmd.c : FnD := { f := 36, sh := false, ps := [.agg T57, .agg T57], pb := [], vc := .c (.bool), bs := [], R := Bool, fn := fun _ x y => laws_eqCmd.f x.1 x.2.1, out := fun y => (y, ()), inn := fun d => d.1, inv := fun _ => rfl }
theorem laws_eqCmd.ok : laws_eqCmd.c.OK Tryz.prog :=
  FnD.of laws_eqCmd.c mix tok (fn := Tryz.f36) Tryz.func36 (by kernel_rfl) (fun _ _ => by kernel_rfl) (by kernel_rfl) (by kernel_rfl) [] trivial
    [] { c := fun _ => none, cc := [], ms := [], tn := [], sh := false, fm := [] } rfl 5000 trivial (fun k x y => by kernel_rfl)

/-! ### loop.example/g00076/laws.eqCmdS: function 11 -/
def laws_eqCmdS.l8 : Nat → (List S57) → (List S57) → Int → Option (Bool)
  | 0, _, _, _ => none
  | k + 1, x0, x1, x5 => if x5 < (x0.length : Int) then (if 0 ≤ x5 then (if x5 < (x0.length : Int) then (if 0 ≤ x5 then (if x5 < (x1.length : Int) then ((laws_eqCmd.f (rd_T57 x0 x5) (rd_T57 x1 x5)).bind fun t1 => (if t1 = true then (laws_eqCmdS.l8 k x0 x1 (wrap64 (x5 + 1))) else (some false))) else none) else none) else none) else none) else (some true)
def laws_eqCmdS.f (k : Nat) (a0 : List S57) (a1 : List S57) : Option (Bool) := if (a0.length : Int) = (a1.length : Int) then (laws_eqCmdS.l8 k a0 a1 0) else (some false)
def laws_eqCmdS.c : FnD := { f := 11, sh := false, ps := [.c (.sl T57), .c (.sl T57)], pb := [], vc := .c (.bool), bs := [], R := Bool, fn := fun k x y => laws_eqCmdS.f k x.1 x.2.1, out := fun y => (y, ()), inn := fun d => d.1, inv := fun _ => rfl }
theorem laws_eqCmdS.ok : laws_eqCmdS.c.OK Tryz.prog :=
  FnD.of laws_eqCmdS.c mix tok (fn := Tryz.f11) Tryz.func11 (by kernel_rfl) (fun _ _ => by kernel_rfl) (by kernel_rfl) (by kernel_rfl) [laws_eqCmd.c] ⟨laws_eqCmd.ok, trivial⟩
    [{ lbl := 8, live := [(0, none), (1, none), (5, none)], ms := [], vs := [.c (.sl false T57), .c (.sl false T57), .c (.int .i64)], bs := [], f := fun k x y => laws_eqCmdS.l8 k x.1 x.2.1 x.2.2.1 }] { c := fun _ => none, cc := [], ms := [], tn := [], sh := false, fm := [] } rfl 5000 ⟨⟨fun _ _ => rfl, fun k x y => by kernel_rfl⟩, trivial⟩ (fun k x y => by kernel_rfl)

/-! ### loop.example/g00076/laws.FnExactPrintScript: function 3 -/
def laws_FnExactPrintScript.f (k : Nat) (a0 : S31) (a1 : List S72) : Option (Bool) := (laws_szTables.f k a0 1048576).bind fun t1 => (if t1 < 0 then (some true) else ((laws_szCmdS.f a1 t1).bind fun t2 => (if t2 < 0 then (some true) else ((laws_toTables.f k a0).bind fun t3 => ((laws_toCmdS.f k a1).bind fun t4 => ((spec_PrintScript.f k t3 t4).bind fun t5 => ((laws_toTables.f k a0).bind fun t6 => ((laws_toCmdS.f k a1).bind fun t7 => ((impl_PrintScript.f k t6 t7).bind fun t8 => (if t8.1 = t5.1 then (if (t8.2 == t5.2) = true then ((laws_toTables.f k a0).bind fun t9 => ((laws_eqTables.f k t6 t9).bind fun t10 => (if t10 = true then ((laws_toCmdS.f k a1).bind fun t11 => ((laws_eqCmdS.f k t7 t11).bind fun t12 => (if t12 = true then (some true) else (some false)))) else (some false)))) else (some false)) else (some false)))))))))))
def laws_FnExactPrintScript.c : FnD := { f := 3, sh := false, ps := [.agg T31, .c (.sl T72)], pb := [], vc := .c (.bool), bs := [], R := Bool, fn := fun k x y => laws_FnExactPrintScript.f k x.1 x.2.1, out := fun y => (y, ()), inn := fun d => d.1, inv := fun _ => rfl }
theorem laws_FnExactPrintScript.ok : laws_FnExactPrintScript.c.OK Tryz.prog :=
  FnD.of laws_FnExactPrintScript.c mix tok (fn := Tryz.f3) Tryz.func3 (by kernel_rfl) (fun _ _ => by kernel_rfl) (by kernel_rfl) (by kernel_rfl) [laws_szTables.c, laws_szCmdS.c, laws_toTables.c, laws_toCmdS.c, spec_PrintScript.c, impl_PrintScript.c, laws_eqTables.c, laws_eqCmdS.c] ⟨laws_szTables.ok, ⟨laws_szCmdS.ok, ⟨laws_toTables.ok, ⟨laws_toCmdS.ok, ⟨spec_PrintScript.ok, ⟨impl_PrintScript.ok, ⟨laws_eqTables.ok, ⟨laws_eqCmdS.ok, trivial⟩⟩⟩⟩⟩⟩⟩⟩
    [] { c := fun _ => none, cc := [], ms := [], tn := [], sh := false, fm := [] } rfl 5000 trivial (fun k x y => by kernel_rfl)

end
end Go.Proofs.YtmdnpaekamkknaaGreatDoor.PPs
