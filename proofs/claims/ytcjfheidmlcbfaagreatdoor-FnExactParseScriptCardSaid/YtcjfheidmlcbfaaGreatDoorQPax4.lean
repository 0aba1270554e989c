/- Go functions as Lean functions, each with its contract. -/
import Derived.Test.YtcjfheidmlcbfaaGreatDoorQPax3
set_option linter.unusedVariables false
set_option maxRecDepth 100000
namespace Go.Proofs.YtcjfheidmlcbfaaGreatDoor.PPa
open Go Go.Proofs Go.RowKit Go.Proofs.YtcjfheidmlcbfaaGreatDoor.V
noncomputable section
/-! ### loop.example/g00076/laws.markCmdS: function 22 -/
def laws_markCmdS_o1.l4 : Nat → Int → Int → (List S85) → Option (Int × (List S85))
  | 0, _, _, _ => none
  | k + 1, x1, x5, h0 => if x5 < (h0.length : Int) then (if 0 ≤ x5 then (if x5 < (h0.length : Int) then ((let q1 : List S85 := h0.set x5.toNat (⟨x1, (rd_T85 h0 x5).f1, (rd_T85 h0 x5).f2⟩ : S85); if 0 ≤ x5 then (if x5 < (q1.length : Int) then ((let q2 : List S85 := q1.set x5.toNat (⟨(rd_T85 q1 x5).f0, (wrap64 (x1 + 1)), (rd_T85 q1 x5).f2⟩ : S85); if 0 ≤ x5 then (if x5 < (q2.length : Int) then ((let q3 : List S85 := q2.set x5.toNat (⟨(rd_T85 q2 x5).f0, (rd_T85 q2 x5).f1, (IntKind.wrap .u32 ((wrap64 ((wrap64 (x1 + 1)) + 1))))⟩ : S85); laws_markCmdS_o1.l4 k (wrap64 ((wrap64 ((wrap64 (x1 + 1)) + 1)) + 1)) (wrap64 (x5 + 1)) q3)) else none) else none)) else none) else none)) else none) else none) else (some (x1, h0))
def laws_markCmdS_o1.f (k : Nat) (a1 : Int) (h0 : List S85) : Option (Int × (List S85)) := laws_markCmdS_o1.l4 k a1 0 h0
def laws_markCmdS_o1.c : FnD := { f := 22, sh := false, ps := [.vc (.c (.own 0)), .c (.int .i64)], pb := [.arr T85 .un], vc := .c (.int .i64), bs := [.arr T85 .un], R := Int × (List S85), fn := fun k x y => laws_markCmdS_o1.f k x.2.1 y.1, out := fun y => (y.1, (y.2, ())), inn := fun d => (d.1, d.2.1), inv := fun _ => rfl }
theorem laws_markCmdS_o1.ok : laws_markCmdS_o1.c.OK Tryz.prog :=
  FnD.of laws_markCmdS_o1.c mix tok (fn := Tryz.f22) Tryz.func22 (by kernel_rfl) (fun _ _ => by kernel_rfl) (by kernel_rfl) (by kernel_rfl) [] trivial
    [{ lbl := 4, live := [(0, none), (1, none), (5, none)], ms := [], vs := [.c (.own 0), .c (.int .i64), .c (.int .i64)], bs := [.arr T85 .un], f := fun k x y => laws_markCmdS_o1.l4 k x.2.1 x.2.2.1 y.1 }] { c := fun _ => none, cc := [], ms := [], tn := [], sh := false, fm := [] } rfl 5000 ⟨⟨fun _ _ => rfl, fun k x y => by kernel_rfl⟩, trivial⟩ (fun k x y => by kernel_rfl)

/-! ### loop.example/g00076/laws.heldCmdS: function 23 -/
def laws_heldCmdS.l4 : Nat → (List S85) → Int → Int → Option (Int)
  | 0, _, _, _ => none
  | k + 1, x0, x1, x5 => if x5 < (x0.length : Int) then (if 0 ≤ x5 then (if x5 < (x0.length : Int) then (if (rd_T85 x0 x5).f0 = x1 then (if 0 ≤ x5 then (if x5 < (x0.length : Int) then (if (rd_T85 x0 x5).f1 = (wrap64 (x1 + 1)) then (if 0 ≤ x5 then (if x5 < (x0.length : Int) then (if (rd_T85 x0 x5).f2 = (IntKind.wrap .u32 ((wrap64 ((wrap64 (x1 + 1)) + 1)))) then (laws_heldCmdS.l4 k x0 (wrap64 ((wrap64 ((wrap64 (x1 + 1)) + 1)) + 1)) (wrap64 (x5 + 1))) else (some (-1))) else none) else none) else (some (-1))) else none) else none) else (some (-1))) else none) else none) else (some x1)
def laws_heldCmdS.f (k : Nat) (a0 : List S85) (a1 : Int) : Option (Int) := laws_heldCmdS.l4 k a0 a1 0
def laws_heldCmdS.c : FnD := { f := 23, sh := false, ps := [.c (.sl T85), .c (.int .i64)], pb := [], vc := .c (.int .i64), bs := [], R := Int, fn := fun k x y => laws_heldCmdS.f k x.1 x.2.1, out := fun y => (y, ()), inn := fun d => d.1, inv := fun _ => rfl }
theorem laws_heldCmdS.ok : laws_heldCmdS.c.OK Tryz.prog :=
  FnD.of laws_heldCmdS.c mix tok (fn := Tryz.f23) Tryz.func23 (by kernel_rfl) (fun _ _ => by kernel_rfl) (by kernel_rfl) (by kernel_rfl) [] trivial
    [{ lbl := 4, live := [(0, none), (1, none), (5, none)], ms := [], vs := [.c (.sl false T85), .c (.int .i64), .c (.int .i64)], bs := [], f := fun k x y => laws_heldCmdS.l4 k x.1 x.2.1 x.2.2.1 }] { c := fun _ => none, cc := [], ms := [], tn := [], sh := false, fm := [] } rfl 5000 ⟨⟨fun _ _ => rfl, fun k x y => by kernel_rfl⟩, trivial⟩ (fun k x y => by kernel_rfl)

/-! ### loop.example/g00076/laws.FnExactParseScript: function 6 -/
def laws_FnExactParseScript.f (k : Nat) (a0 : S92) (a1 : ByteArray) : Option (Bool) := if (a1.size : Int) > 1048576 then (some true) else ((laws_szTables.f k a0 1048576).bind fun t1 => (if t1 < 0 then (some true) else ((laws_toTables.f k a0).bind fun t2 => ((spec_ParseScript.f k t2 a1).bind fun t3 => ((laws_toTables.f k a0).bind fun t4 => ((impl_ParseScript.f k t4 a1).bind fun t5 => ((laws_eqCmdS.f k t5.1 t3.1).bind fun t6 => (if t6 = true then (if t5.2.1 = t3.2.1 then (if t5.2.2 = t3.2.2 then ((laws_toTables.f k a0).bind fun t7 => ((laws_eqTables.f k t4 t7).bind fun t8 => (if t8 = true then ((laws_markTables_o1.f k t4.f0 t4.f1.f0 t4.f1.f1 t4.f1.f2 t4.f2 t4.f3.f0 t4.f3.f1 t4.f3.f2 t4.f3.f3 t4.f3.f4 t4.f3.f5 t4.f3.f6 t4.f4 t4.f5 t4.f6 1 t4.f7 t4.f8 t4.f9 t4.f10).bind fun t9 => (if t9.1 < 0 then (some false) else ((laws_eqCmdS.f k t5.1 t3.1).bind fun t10 => (if t10 = true then (if t5.2.1 = t3.2.1 then (if t5.2.2 = t3.2.2 then ((laws_markCmdS_o1.f k 1 t5.1).bind fun t11 => ((laws_heldCmdS.f k t11.2 1).bind fun t12 => (if t12 < 0 then (some false) else (if t12 = t11.1 then ((laws_toTables.f k a0).bind fun t13 => ((impl_ParseScript.f k t13 a1).bind fun t14 => ((laws_eqCmdS.f k t14.1 t3.1).bind fun t15 => (if t15 = true then (if t14.2.1 = t3.2.1 then (if t14.2.2 = t3.2.2 then ((laws_heldCmdS.f k t11.2 1).bind fun t16 => (if t16 < 0 then (some false) else (if t16 = t11.1 then (some true) else (some false)))) else (some false)) else (some false)) else (some false))))) else (some false))))) else (some false)) else (some false)) else (some false))))) else (some false)))) else (some false)) else (some false)) else (some false)))))))))
def laws_FnExactParseScript.c : FnD := { f := 6, sh := false, ps := [.agg T92, .c .str], pb := [], vc := .c (.bool), bs := [], R := Bool, fn := fun k x y => laws_FnExactParseScript.f k x.1 x.2.1, out := fun y => (y, ()), inn := fun d => d.1, inv := fun _ => rfl }
theorem laws_FnExactParseScript.ok : laws_FnExactParseScript.c.OK Tryz.prog :=
  FnD.of laws_FnExactParseScript.c mix tok (fn := Tryz.f6) Tryz.func6 (by kernel_rfl) (fun _ _ => by kernel_rfl) (by kernel_rfl) (by kernel_rfl) [laws_markTables_o1.c, laws_markCmdS_o1.c, laws_szTables.c, laws_toTables.c, spec_ParseScript.c, impl_ParseScript.c, laws_eqCmdS.c, laws_eqTables.c, laws_heldCmdS.c] ⟨laws_markTables_o1.ok, ⟨laws_markCmdS_o1.ok, ⟨laws_szTables.ok, ⟨laws_toTables.ok, ⟨spec_ParseScript.ok, ⟨impl_ParseScript.ok, ⟨laws_eqCmdS.ok, ⟨laws_eqTables.ok, ⟨laws_heldCmdS.ok, trivial⟩⟩⟩⟩⟩⟩⟩⟩⟩
    [] { c := fun _ => none, cc := [], ms := [], tn := [], sh := false, fm := [] } rfl 5000 trivial (fun k x y => by kernel_rfl)

end
end Go.Proofs.YtcjfheidmlcbfaaGreatDoor.PPa
