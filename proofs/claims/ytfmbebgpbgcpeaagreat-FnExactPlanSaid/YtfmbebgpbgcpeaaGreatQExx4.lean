/- Go functions as Lean functions, each with its contract. -/
import Derived.Test.YtfmbebgpbgcpeaaGreatQExx3
set_option linter.unusedVariables false
set_option maxRecDepth 100000
namespace Go.Proofs.YtfmbebgpbgcpeaaGreat.PEx
open Go Go.Proofs Go.RowKit Go.Proofs.YtfmbebgpbgcpeaaGreat.V
noncomputable section
/-! ### loop.example/g00076/laws.heldChanRowS: function 65 -/
def laws_heldChanRowS.l4 : Nat → (List S111) → Int → Int → Option (Int)
  | 0, _, _, _ => none
  | k + 1, x0, x1, x5 => if x5 < (x0.length : Int) then (if 0 ≤ x5 then (if x5 < (x0.length : Int) then (if (rd_T111 x0 x5).f0 = x1 then (if 0 ≤ x5 then (if x5 < (x0.length : Int) then (if (rd_T111 x0 x5).f1 = (wrap64 (x1 + 1)) then (if 0 ≤ x5 then (if x5 < (x0.length : Int) then (if (rd_T111 x0 x5).f2 = (wrap64 ((wrap64 (x1 + 1)) + 1)) then (if 0 ≤ x5 then (if x5 < (x0.length : Int) then (if (rd_T111 x0 x5).f3 = (wrap64 ((wrap64 ((wrap64 (x1 + 1)) + 1)) + 1)) then (laws_heldChanRowS.l4 k x0 (wrap64 ((wrap64 ((wrap64 ((wrap64 (x1 + 1)) + 1)) + 1)) + 1)) (wrap64 (x5 + 1))) else (some (-1))) else none) else none) else (some (-1))) else none) else none) else (some (-1))) else none) else none) else (some (-1))) else none) else none) else (some x1)
def laws_heldChanRowS.f (k : Nat) (a0 : List S111) (a1 : Int) : Option (Int) := laws_heldChanRowS.l4 k a0 a1 0
def laws_heldChanRowS.c : FnD := { f := 65, sh := false, ps := [.c (.sl T111), .c (.int .i64)], pb := [], vc := .c (.int .i64), bs := [], R := Int, fn := fun k x y => laws_heldChanRowS.f k x.1 x.2.1, out := fun y => (y, ()), inn := fun d => d.1, inv := fun _ => rfl }
theorem laws_heldChanRowS.ok : laws_heldChanRowS.c.OK Tryz.prog :=
  FnD.of laws_heldChanRowS.c mix tok (fn := Tryz.f65) Tryz.func65 (by kernel_rfl) (fun _ _ => by kernel_rfl) (by kernel_rfl) (by kernel_rfl) [] trivial
    [{ lbl := 4, live := [(0, none), (1, none), (5, none)], ms := [], vs := [.c (.sl false T111), .c (.int .i64), .c (.int .i64)], bs := [], f := fun k x y => laws_heldChanRowS.l4 k x.1 x.2.1 x.2.2.1 }] { c := fun _ => none, cc := [], ms := [], tn := [], sh := false, fm := [] } rfl 5000 ⟨⟨fun _ _ => rfl, fun k x y => by kernel_rfl⟩, trivial⟩ (fun k x y => by kernel_rfl)

/-! ### loop.example/g00076/laws.heldSlotS: function 66 -/
def laws_heldSlotS.l4 : Nat → (List S95) → Int → Int → Option (Int)
  | 0, _, _, _ => none
  | k + 1, x0, x1, x5 => if x5 < (x0.length : Int) then (if 0 ≤ x5 then (if x5 < (x0.length : Int) then (if (rd_T95 x0 x5).f0 = x1 then (if 0 ≤ x5 then (if x5 < (x0.length : Int) then (if (rd_T95 x0 x5).f1 = (wrap64 (x1 + 1)) then (if 0 ≤ x5 then (if x5 < (x0.length : Int) then (if (rd_T95 x0 x5).f2 = (wrap64 ((wrap64 (x1 + 1)) + 1)) then (laws_heldSlotS.l4 k x0 (wrap64 ((wrap64 ((wrap64 (x1 + 1)) + 1)) + 1)) (wrap64 (x5 + 1))) else (some (-1))) else none) else none) else (some (-1))) else none) else none) else (some (-1))) else none) else none) else (some x1)
def laws_heldSlotS.f (k : Nat) (a0 : List S95) (a1 : Int) : Option (Int) := laws_heldSlotS.l4 k a0 a1 0
def laws_heldSlotS.c : FnD := { f := 66, sh := false, ps := [.c (.sl T95), .c (.int .i64)], pb := [], vc := .c (.int .i64), bs := [], R := Int, fn := fun k x y => laws_heldSlotS.f k x.1 x.2.1, out := fun y => (y, ()), inn := fun d => d.1, inv := fun _ => rfl }
theorem laws_heldSlotS.ok : laws_heldSlotS.c.OK Tryz.prog :=
  FnD.of laws_heldSlotS.c mix tok (fn := Tryz.f66) Tryz.func66 (by kernel_rfl) (fun _ _ => by kernel_rfl) (by kernel_rfl) (by kernel_rfl) [] trivial
    [{ lbl := 4, live := [(0, none), (1, none), (5, none)], ms := [], vs := [.c (.sl false T95), .c (.int .i64), .c (.int .i64)], bs := [], f := fun k x y => laws_heldSlotS.l4 k x.1 x.2.1 x.2.2.1 }] { c := fun _ => none, cc := [], ms := [], tn := [], sh := false, fm := [] } rfl 5000 ⟨⟨fun _ _ => rfl, fun k x y => by kernel_rfl⟩, trivial⟩ (fun k x y => by kernel_rfl)

/-! ### loop.example/g00076/laws.heldTables: function 25 -/
def laws_heldTables.f (k : Nat) (a0 : S43) (a1 : Int) : Option (Int) := (laws_heldPartRowS.f k a0.f7 a1).bind fun t1 => (if t1 < 0 then (some (-1)) else ((laws_heldIntS.f k a0.f8 t1).bind fun t2 => (if t2 < 0 then (some (-1)) else ((laws_heldChanRowS.f k a0.f9 t2).bind fun t3 => (if t3 < 0 then (some (-1)) else ((laws_heldSlotS.f k a0.f10 t3).bind fun t4 => (if t4 < 0 then (some (-1)) else (some t4))))))))
def laws_heldTables.c : FnD := { f := 25, sh := false, ps := [.agg T43, .c (.int .i64)], pb := [], vc := .c (.int .i64), bs := [], R := Int, fn := fun k x y => laws_heldTables.f k x.1 x.2.1, out := fun y => (y, ()), inn := fun d => d.1, inv := fun _ => rfl }
theorem laws_heldTables.ok : laws_heldTables.c.OK Tryz.prog :=
  FnD.of laws_heldTables.c mix tok (fn := Tryz.f25) Tryz.func25 (by kernel_rfl) (fun _ _ => by kernel_rfl) (by kernel_rfl) (by kernel_rfl) [laws_heldPartRowS.c, laws_heldIntS.c, laws_heldChanRowS.c, laws_heldSlotS.c] ⟨laws_heldPartRowS.ok, ⟨laws_heldIntS.ok, ⟨laws_heldChanRowS.ok, ⟨laws_heldSlotS.ok, trivial⟩⟩⟩⟩
    [] { c := fun _ => none, cc := [], ms := [], tn := [], sh := false, fm := [] } rfl 5000 trivial (fun k x y => by kernel_rfl)

/-! ### loop.example/g00076/laws.FnExactPlan: function 4 -/
def laws_FnExactPlan.f (k : Nat) (a0 : S31) (a1 : List Int) : Option (Bool) := if (a1.length : Int) > 1048576 then (some true) else ((laws_szTables.f k a0 1048576).bind fun t1 => (if t1 < 0 then (some true) else ((laws_toTables.f k a0).bind fun t2 => ((laws_toIntS.f k a1).bind fun t3 => ((spec_Plan.f k t2 t3).bind fun t4 => ((laws_toTables.f k a0).bind fun t5 => ((laws_toIntS.f k a1).bind fun t6 => ((impl_Plan.f k t5 t6).bind fun t7 => ((laws_eqTables.f k t7.1 t4.1).bind fun t8 => (if t8 = true then (if (t7.2 == t4.2) = true then ((laws_toTables.f k a0).bind fun t9 => ((laws_eqTables.f k t5 t9).bind fun t10 => (if t10 = true then ((laws_toIntS.f k a1).bind fun t11 => ((laws_eqIntS.f k t6 t11).bind fun t12 => (if t12 = true then ((laws_markTables_o1.f k t5.f0 t5.f1.f0 t5.f1.f1 t5.f1.f2 t5.f2 t5.f3.f0 t5.f3.f1 t5.f3.f2 t5.f3.f3 t5.f3.f4 t5.f3.f5 t5.f3.f6 t5.f4 t5.f5 t5.f6 1 t5.f7 t5.f8 t5.f9 t5.f10).bind fun t13 => ((laws_markIntS_o1.f k t13.1 t6).bind fun t14 => (if t14.1 < 0 then (some false) else ((laws_eqTables.f k t7.1 t4.1).bind fun t15 => (if t15 = true then (if (t7.2 == t4.2) = true then ((laws_markTables_o1.f k t7.1.f0 t7.1.f1.f0 t7.1.f1.f1 t7.1.f1.f2 t7.1.f2 t7.1.f3.f0 t7.1.f3.f1 t7.1.f3.f2 t7.1.f3.f3 t7.1.f3.f4 t7.1.f3.f5 t7.1.f3.f6 t7.1.f4 t7.1.f5 t7.1.f6 1 t7.1.f7 t7.1.f8 t7.1.f9 t7.1.f10).bind fun t16 => ((laws_heldTables.f k (⟨t7.1.f0, t7.1.f1, t7.1.f2, t7.1.f3, t7.1.f4, t7.1.f5, t7.1.f6, t16.2.1, t16.2.2.1, t16.2.2.2.1, t16.2.2.2.2⟩ : S43) 1).bind fun t17 => (if t17 < 0 then (some false) else (if t17 = t16.1 then ((laws_toTables.f k a0).bind fun t18 => ((laws_toIntS.f k a1).bind fun t19 => ((impl_Plan.f k t18 t19).bind fun t20 => ((laws_eqTables.f k t20.1 t4.1).bind fun t21 => (if t21 = true then (if (t20.2 == t4.2) = true then ((laws_heldTables.f k (⟨t7.1.f0, t7.1.f1, t7.1.f2, t7.1.f3, t7.1.f4, t7.1.f5, t7.1.f6, t16.2.1, t16.2.2.1, t16.2.2.2.1, t16.2.2.2.2⟩ : S43) 1).bind fun t22 => (if t22 < 0 then (some false) else (if t22 = t16.1 then (some true) else (some false)))) else (some false)) else (some false)))))) else (some false))))) else (some false)) else (some false)))))) else (some false)))) else (some false)))) else (some false)) else (some false)))))))))))
def laws_FnExactPlan.c : FnD := { f := 4, sh := false, ps := [.agg T31, .c (.sl (.int .i64))], pb := [], vc := .c (.bool), bs := [], R := Bool, fn := fun k x y => laws_FnExactPlan.f k x.1 x.2.1, out := fun y => (y, ()), inn := fun d => d.1, inv := fun _ => rfl }
theorem laws_FnExactPlan.ok : laws_FnExactPlan.c.OK Tryz.prog :=
  FnD.of laws_FnExactPlan.c mix tok (fn := Tryz.f4) Tryz.func4 (by kernel_rfl) (fun _ _ => by kernel_rfl) (by kernel_rfl) (by kernel_rfl) [laws_markTables_o1.c, laws_markIntS_o1.c, laws_szTables.c, laws_toTables.c, laws_toIntS.c, spec_Plan.c, impl_Plan.c, laws_eqTables.c, laws_eqIntS.c, laws_heldTables.c] ⟨laws_markTables_o1.ok, ⟨laws_markIntS_o1.ok, ⟨laws_szTables.ok, ⟨laws_toTables.ok, ⟨laws_toIntS.ok, ⟨spec_Plan.ok, ⟨impl_Plan.ok, ⟨laws_eqTables.ok, ⟨laws_eqIntS.ok, ⟨laws_heldTables.ok, trivial⟩⟩⟩⟩⟩⟩⟩⟩⟩⟩
    [] { c := fun _ => none, cc := [], ms := [], tn := [], sh := false, fm := [] } rfl 5000 trivial (fun k x y => by kernel_rfl)

end
end Go.Proofs.YtfmbebgpbgcpeaaGreat.PEx
