/- Go functions as Lean functions, each with its contract. -/
import Derived.Test.YtcjfheidmlcbfaaGreatDoorQPax0
set_option linter.unusedVariables false
set_option maxRecDepth 100000
namespace Go.Proofs.YtcjfheidmlcbfaaGreatDoor.PPa
open Go Go.Proofs Go.RowKit Go.Proofs.YtcjfheidmlcbfaaGreatDoor.V
noncomputable section
/-! ### loop.example/g00076/laws.szWindowS: function 152 -/
def laws_szWindowS.f (a0 : List S260) (a1 : Int) : Option (Int) := if (wrap64 (a1 - (a0.length : Int))) < 0 then (some (-1)) else (some (wrap64 (a1 - (a0.length : Int))))
def laws_szWindowS.c : FnD := { f := 152, sh := false, ps := [.c (.sl T260), .c (.int .i64)], pb := [], vc := .c (.int .i64), bs := [], R := Int, fn := fun _ x y => laws_szWindowS.f x.1 x.2.1, out := fun y => (y, ()), inn := fun d => d.1, inv := fun _ => rfl }
theorem laws_szWindowS.ok : laws_szWindowS.c.OK Tryz.prog :=
  FnD.of laws_szWindowS.c mix tok (fn := Tryz.f152) Tryz.func152 (by kernel_rfl) (fun _ _ => by kernel_rfl) (by kernel_rfl) (by kernel_rfl) [] trivial
    [] { c := fun _ => none, cc := [], ms := [], tn := [], sh := false, fm := [] } rfl 5000 trivial (fun k x y => by kernel_rfl)

/-! ### loop.example/g00076/laws.szPartRow: function 99 -/
def laws_szPartRow.f (a0 : S176) (a1 : Int) : Option (Int) := if (wrap64 (a1 - (a0.f0.size : Int))) < 0 then (some (-1)) else ((laws_szWindowS.f a0.f3 (wrap64 (a1 - (a0.f0.size : Int)))).bind fun t1 => (if t1 < 0 then (some (-1)) else (some t1)))
def laws_szPartRow.c : FnD := { f := 99, sh := false, ps := [.agg T176, .c (.int .i64)], pb := [], vc := .c (.int .i64), bs := [], R := Int, fn := fun _ x y => laws_szPartRow.f x.1 x.2.1, out := fun y => (y, ()), inn := fun d => d.1, inv := fun _ => rfl }
theorem laws_szPartRow.ok : laws_szPartRow.c.OK Tryz.prog :=
  FnD.of laws_szPartRow.c mix tok (fn := Tryz.f99) Tryz.func99 (by kernel_rfl) (fun _ _ => by kernel_rfl) (by kernel_rfl) (by kernel_rfl) [laws_szWindowS.c] ⟨laws_szWindowS.ok, trivial⟩
    [] { c := fun _ => none, cc := [], ms := [], tn := [], sh := false, fm := [] } rfl 5000 trivial (fun k x y => by kernel_rfl)

/-! ### loop.example/g00076/laws.szPartRowS: function 41 -/
def laws_szPartRowS.l10 : Nat → (List S176) → Int → Int → Option (Int)
  | 0, _, _, _ => none
  | k + 1, x0, x1, x5 => if x5 < (x0.length : Int) then (if 0 ≤ x5 then (if x5 < (x0.length : Int) then ((laws_szPartRow.f (rd_T176 x0 x5) x1).bind fun t1 => (if t1 < 0 then (some (-1)) else (laws_szPartRowS.l10 k x0 t1 (wrap64 (x5 + 1))))) else none) else none) else (some x1)
def laws_szPartRowS.f (k : Nat) (a0 : List S176) (a1 : Int) : Option (Int) := if (wrap64 (a1 - (a0.length : Int))) < 0 then (some (-1)) else (laws_szPartRowS.l10 k a0 (wrap64 (a1 - (a0.length : Int))) 0)
def laws_szPartRowS.c : FnD := { f := 41, sh := false, ps := [.c (.sl T176), .c (.int .i64)], pb := [], vc := .c (.int .i64), bs := [], R := Int, fn := fun k x y => laws_szPartRowS.f k x.1 x.2.1, out := fun y => (y, ()), inn := fun d => d.1, inv := fun _ => rfl }
theorem laws_szPartRowS.ok : laws_szPartRowS.c.OK Tryz.prog :=
  FnD.of laws_szPartRowS.c mix tok (fn := Tryz.f41) Tryz.func41 (by kernel_rfl) (fun _ _ => by kernel_rfl) (by kernel_rfl) (by kernel_rfl) [laws_szPartRow.c] ⟨laws_szPartRow.ok, trivial⟩
    [{ lbl := 10, live := [(0, none), (1, none), (5, none)], ms := [], vs := [.c (.sl false T176), .c (.int .i64), .c (.int .i64)], bs := [], f := fun k x y => laws_szPartRowS.l10 k x.1 x.2.1 x.2.2.1 }] { c := fun _ => none, cc := [], ms := [], tn := [], sh := false, fm := [] } rfl 5000 ⟨⟨fun _ _ => rfl, fun k x y => by kernel_rfl⟩, trivial⟩ (fun k x y => by kernel_rfl)

/-! ### loop.example/g00076/laws.szIntS: function 42 -/
def laws_szIntS.f (a0 : List Int) (a1 : Int) : Option (Int) := if (wrap64 (a1 - (a0.length : Int))) < 0 then (some (-1)) else (some (wrap64 (a1 - (a0.length : Int))))
def laws_szIntS.c : FnD := { f := 42, sh := false, ps := [.c (.sl (.int .i64)), .c (.int .i64)], pb := [], vc := .c (.int .i64), bs := [], R := Int, fn := fun _ x y => laws_szIntS.f x.1 x.2.1, out := fun y => (y, ()), inn := fun d => d.1, inv := fun _ => rfl }
theorem laws_szIntS.ok : laws_szIntS.c.OK Tryz.prog :=
  FnD.of laws_szIntS.c mix tok (fn := Tryz.f42) Tryz.func42 (by kernel_rfl) (fun _ _ => by kernel_rfl) (by kernel_rfl) (by kernel_rfl) [] trivial
    [] { c := fun _ => none, cc := [], ms := [], tn := [], sh := false, fm := [] } rfl 5000 trivial (fun k x y => by kernel_rfl)

/-! ### loop.example/g00076/laws.szChanRowS: function 43 -/
def laws_szChanRowS.f (a0 : List S180) (a1 : Int) : Option (Int) := if (wrap64 (a1 - (a0.length : Int))) < 0 then (some (-1)) else (some (wrap64 (a1 - (a0.length : Int))))
def laws_szChanRowS.c : FnD := { f := 43, sh := false, ps := [.c (.sl T180), .c (.int .i64)], pb := [], vc := .c (.int .i64), bs := [], R := Int, fn := fun _ x y => laws_szChanRowS.f x.1 x.2.1, out := fun y => (y, ()), inn := fun d => d.1, inv := fun _ => rfl }
theorem laws_szChanRowS.ok : laws_szChanRowS.c.OK Tryz.prog :=
  FnD.of laws_szChanRowS.c mix tok (fn := Tryz.f43) Tryz.func43 (by kernel_rfl) (fun _ _ => by kernel_rfl) (by kernel_rfl) (by kernel_rfl) [] trivial
    [] { c := fun _ => none, cc := [], ms := [], tn := [], sh := false, fm := [] } rfl 5000 trivial (fun k x y => by kernel_rfl)

/-! ### loop.example/g00076/laws.szSlotS: function 44 -/
def laws_szSlotS.f (a0 : List S184) (a1 : Int) : Option (Int) := if (wrap64 (a1 - (a0.length : Int))) < 0 then (some (-1)) else (some (wrap64 (a1 - (a0.length : Int))))
def laws_szSlotS.c : FnD := { f := 44, sh := false, ps := [.c (.sl T184), .c (.int .i64)], pb := [], vc := .c (.int .i64), bs := [], R := Int, fn := fun _ x y => laws_szSlotS.f x.1 x.2.1, out := fun y => (y, ()), inn := fun d => d.1, inv := fun _ => rfl }
theorem laws_szSlotS.ok : laws_szSlotS.c.OK Tryz.prog :=
  FnD.of laws_szSlotS.c mix tok (fn := Tryz.f44) Tryz.func44 (by kernel_rfl) (fun _ _ => by kernel_rfl) (by kernel_rfl) (by kernel_rfl) [] trivial
    [] { c := fun _ => none, cc := [], ms := [], tn := [], sh := false, fm := [] } rfl 5000 trivial (fun k x y => by kernel_rfl)

/-! ### loop.example/g00076/laws.szTables: function 16 -/
def laws_szTables.f (k : Nat) (a0 : S92) (a1 : Int) : Option (Int) := (laws_szPartRowS.f k a0.f7 a1).bind fun t1 => (if t1 < 0 then (some (-1)) else ((laws_szIntS.f a0.f8 t1).bind fun t2 => (if t2 < 0 then (some (-1)) else ((laws_szChanRowS.f a0.f9 t2).bind fun t3 => (if t3 < 0 then (some (-1)) else ((laws_szSlotS.f a0.f10 t3).bind fun t4 => (if t4 < 0 then (some (-1)) else (some t4))))))))
def laws_szTables.c : FnD := { f := 16, sh := false, ps := [.agg T92, .c (.int .i64)], pb := [], vc := .c (.int .i64), bs := [], R := Int, fn := fun k x y => laws_szTables.f k x.1 x.2.1, out := fun y => (y, ()), inn := fun d => d.1, inv := fun _ => rfl }
theorem laws_szTables.ok : laws_szTables.c.OK Tryz.prog :=
  FnD.of laws_szTables.c mix tok (fn := Tryz.f16) Tryz.func16 (by kernel_rfl) (fun _ _ => by kernel_rfl) (by kernel_rfl) (by kernel_rfl) [laws_szPartRowS.c, laws_szIntS.c, laws_szChanRowS.c, laws_szSlotS.c] ⟨laws_szPartRowS.ok, ⟨laws_szIntS.ok, ⟨laws_szChanRowS.ok, ⟨laws_szSlotS.ok, trivial⟩⟩⟩⟩
    [] { c := fun _ => none, cc := [], ms := [], tn := [], sh := false, fm := [] } rfl 5000 trivial (fun k x y => by kernel_rfl)

/-! ### loop.example/g00076/laws.toShape: function 47 -/
def laws_toShape.f (a0 : S86) : Option (S25) := some (⟨a0.f0, a0.f1, a0.f2⟩ : S25)
def laws_toShape.c : FnD := { f := 47, sh := false, ps := [.agg T86], pb := [], vc := .agg [.int .i64, .int .i64, .int .i64], bs := [], R := S25, fn := fun _ x y => laws_toShape.f x.1, out := fun y => ((y.1, y.2.1, y.2.2, ()), ()), inn := fun d => (d.1.1, d.1.2.1, d.1.2.2.1), inv := fun _ => rfl }
theorem laws_toShape.ok : laws_toShape.c.OK Tryz.prog :=
  FnD.of laws_toShape.c mix tok (fn := Tryz.f47) Tryz.func47 (by kernel_rfl) (fun _ _ => by kernel_rfl) (by kernel_rfl) (by kernel_rfl) [] trivial
    [] { c := fun _ => none, cc := [], ms := [], tn := [], sh := false, fm := [] } rfl 5000 trivial (fun k x y => by kernel_rfl)

/-! ### loop.example/g00076/laws.toCosts: function 48 -/
def laws_toCosts.f (a0 : S87) : Option (S27) := some (⟨a0.f0, a0.f1, a0.f2, a0.f3, a0.f4, a0.f5, a0.f6⟩ : S27)
def laws_toCosts.c : FnD := { f := 48, sh := false, ps := [.agg T87], pb := [], vc := .agg [.int .i64, .int .i64, .int .i64, .int .i64, .int .i64, .int .i64, .int .i64], bs := [], R := S27, fn := fun _ x y => laws_toCosts.f x.1, out := fun y => ((y.1, y.2.1, y.2.2.1, y.2.2.2.1, y.2.2.2.2.1, y.2.2.2.2.2.1, y.2.2.2.2.2.2, ()), ()), inn := fun d => (d.1.1, d.1.2.1, d.1.2.2.1, d.1.2.2.2.1, d.1.2.2.2.2.1, d.1.2.2.2.2.2.1, d.1.2.2.2.2.2.2.1), inv := fun _ => rfl }
theorem laws_toCosts.ok : laws_toCosts.c.OK Tryz.prog :=
  FnD.of laws_toCosts.c mix tok (fn := Tryz.f48) Tryz.func48 (by kernel_rfl) (fun _ _ => by kernel_rfl) (by kernel_rfl) (by kernel_rfl) [] trivial
    [] { c := fun _ => none, cc := [], ms := [], tn := [], sh := false, fm := [] } rfl 5000 trivial (fun k x y => by kernel_rfl)

/-! ### loop.example/g00076/laws.toPolicy: function 153 -/
def laws_toPolicy.f (a0 : S173) : Option (S68) := some (⟨a0.f0, a0.f1⟩ : S68)
def laws_toPolicy.c : FnD := { f := 153, sh := false, ps := [.agg T173], pb := [], vc := .agg [.int .i64, .int .i64], bs := [], R := S68, fn := fun _ x y => laws_toPolicy.f x.1, out := fun y => ((y.1, y.2, ()), ()), inn := fun d => (d.1.1, d.1.2.1), inv := fun _ => rfl }
theorem laws_toPolicy.ok : laws_toPolicy.c.OK Tryz.prog :=
  FnD.of laws_toPolicy.c mix tok (fn := Tryz.f153) Tryz.func153 (by kernel_rfl) (fun _ _ => by kernel_rfl) (by kernel_rfl) (by kernel_rfl) [] trivial
    [] { c := fun _ => none, cc := [], ms := [], tn := [], sh := false, fm := [] } rfl 5000 trivial (fun k x y => by kernel_rfl)

/-! ### loop.example/g00076/laws.toWindow: function 188 -/
def laws_toWindow.f (a0 : S260) : Option (S66) := some (⟨a0.f0, a0.f1, a0.f2⟩ : S66)
def laws_toWindow.c : FnD := { f := 188, sh := false, ps := [.agg T260], pb := [], vc := .agg [.int .i64, .int .i64, .int .i64], bs := [], R := S66, fn := fun _ x y => laws_toWindow.f x.1, out := fun y => ((y.1, y.2.1, y.2.2, ()), ()), inn := fun d => (d.1.1, d.1.2.1, d.1.2.2.1), inv := fun _ => rfl }
theorem laws_toWindow.ok : laws_toWindow.c.OK Tryz.prog :=
  FnD.of laws_toWindow.c mix tok (fn := Tryz.f188) Tryz.func188 (by kernel_rfl) (fun _ _ => by kernel_rfl) (by kernel_rfl) (by kernel_rfl) [] trivial
    [] { c := fun _ => none, cc := [], ms := [], tn := [], sh := false, fm := [] } rfl 5000 trivial (fun k x y => by kernel_rfl)

/-! ### loop.example/g00076/laws.toWindowS: function 154 -/
def laws_toWindowS.l6 : Nat → (List S260) → Int → (List S66) → Option ((List S66))
  | 0, _, _, _ => none
  | k + 1, x0, x4, h0 => if x4 < (x0.length : Int) then (if 0 ≤ x4 then (if x4 < (x0.length : Int) then ((laws_toWindow.f (rd_T260 x0 x4)).bind fun t1 => (if 0 ≤ x4 then (if x4 < (h0.length : Int) then (laws_toWindowS.l6 k x0 (wrap64 (x4 + 1)) (h0.set x4.toNat t1)) else none) else none)) else none) else none) else (some h0)
def laws_toWindowS.f (k : Nat) (a0 : List S260) : Option ((List S66)) := if 0 ≤ (a0.length : Int) then (if (a0.length : Int) ≤ (a0.length : Int) then (if (a0.length : Int).toNat ≤ 11728124029610 then (laws_toWindowS.l6 k a0 0 (List.replicate (a0.length : Int).toNat z66)) else none) else none) else none
def laws_toWindowS.c : FnD := { f := 154, sh := false, ps := [.c (.sl T260)], pb := [], vc := .c (.own 0), bs := [.arr T66 .un], R := (List S66), fn := fun k x y => laws_toWindowS.f k x.1, out := fun y => ((), (y, ())), inn := fun d => d.2.1, inv := fun _ => rfl }
theorem laws_toWindowS.ok : laws_toWindowS.c.OK Tryz.prog :=
  FnD.of laws_toWindowS.c mix tok (fn := Tryz.f154) Tryz.func154 (by kernel_rfl) (fun _ _ => by kernel_rfl) (by kernel_rfl) (by kernel_rfl) [laws_toWindow.c] ⟨laws_toWindow.ok, trivial⟩
    [{ lbl := 6, live := [(0, none), (3, none), (4, none)], ms := [], vs := [.c (.sl false T260), .c (.own 0), .c (.int .i64)], bs := [.arr T66 .un], f := fun k x y => laws_toWindowS.l6 k x.1 x.2.2.1 y.1 }] { c := fun _ => none, cc := [], ms := [], tn := [], sh := false, fm := [] } rfl 5000 ⟨⟨fun _ _ => rfl, fun k x y => by kernel_rfl⟩, trivial⟩ (fun k x y => by kernel_rfl)

/-! ### loop.example/g00076/laws.toPartRow: function 103 -/
def laws_toPartRow.f (k : Nat) (a0 : S176) : Option (S71) := (laws_toPolicy.f a0.f2).bind fun t1 => ((laws_toWindowS.f k a0.f3).bind fun t2 => (some (⟨a0.f0, a0.f1, t1, t2⟩ : S71)))
def laws_toPartRow.c : FnD := { f := 103, sh := false, ps := [.agg T176], pb := [], vc := .agg [.str, .int .i64, .int .i64, .int .i64, .own 0], bs := [.arr T66 .un], R := S71, fn := fun k x y => laws_toPartRow.f k x.1, out := fun y => ((y.1, y.2.1, y.2.2.1.1, y.2.2.1.2, (), ()), (y.2.2.2, ())), inn := fun d => (d.1.1, d.1.2.1, (d.1.2.2.1, d.1.2.2.2.1), d.2.1), inv := fun _ => rfl }
theorem laws_toPartRow.ok : laws_toPartRow.c.OK Tryz.prog :=
  FnD.of laws_toPartRow.c mix tok (fn := Tryz.f103) Tryz.func103 (by kernel_rfl) (fun _ _ => by kernel_rfl) (by kernel_rfl) (by kernel_rfl) [laws_toPolicy.c, laws_toWindowS.c] ⟨laws_toPolicy.ok, ⟨laws_toWindowS.ok, trivial⟩⟩
    [] { c := fun _ => none, cc := [], ms := [], tn := [], sh := false, fm := [] } rfl 5000 trivial (fun k x y => by kernel_rfl)

/-! ### loop.example/g00076/laws.toPartRowS: function 49 -/
def laws_toPartRowS.l6 : Nat → (List S176) → Int → (List S71) → Option ((List S71))
  | 0, _, _, _ => none
  | k + 1, x0, x4, h0 => if x4 < (x0.length : Int) then (if 0 ≤ x4 then (if x4 < (x0.length : Int) then ((laws_toPartRow.f k (rd_T176 x0 x4)).bind fun t1 => (if 0 ≤ x4 then (if x4 < (h0.length : Int) then (laws_toPartRowS.l6 k x0 (wrap64 (x4 + 1)) (h0.set x4.toNat t1)) else none) else none)) else none) else none) else (some h0)
def laws_toPartRowS.f (k : Nat) (a0 : List S176) : Option ((List S71)) := if 0 ≤ (a0.length : Int) then (if (a0.length : Int) ≤ (a0.length : Int) then (if (a0.length : Int).toNat ≤ 4398046511104 then (laws_toPartRowS.l6 k a0 0 (List.replicate (a0.length : Int).toNat z71)) else none) else none) else none
def laws_toPartRowS.c : FnD := { f := 49, sh := false, ps := [.c (.sl T176)], pb := [], vc := .c (.own 0), bs := [.arr T71 .un], R := (List S71), fn := fun k x y => laws_toPartRowS.f k x.1, out := fun y => ((), (y, ())), inn := fun d => d.2.1, inv := fun _ => rfl }
theorem laws_toPartRowS.ok : laws_toPartRowS.c.OK Tryz.prog :=
  FnD.of laws_toPartRowS.c mix tok (fn := Tryz.f49) Tryz.func49 (by kernel_rfl) (fun _ _ => by kernel_rfl) (by kernel_rfl) (by kernel_rfl) [laws_toPartRow.c] ⟨laws_toPartRow.ok, trivial⟩
    [{ lbl := 6, live := [(0, none), (3, none), (4, none)], ms := [], vs := [.c (.sl false T176), .c (.own 0), .c (.int .i64)], bs := [.arr T71 .un], f := fun k x y => laws_toPartRowS.l6 k x.1 x.2.2.1 y.1 }] { c := fun _ => none, cc := [], ms := [], tn := [], sh := false, fm := [] } rfl 5000 ⟨⟨fun _ _ => rfl, fun k x y => by kernel_rfl⟩, trivial⟩ (fun k x y => by kernel_rfl)

/-! ### loop.example/g00076/laws.toIntS: function 50 -/
def laws_toIntS.l6 : Nat → (List Int) → Int → (List Int) → Option ((List Int))
  | 0, _, _, _ => none
  | k + 1, x0, x4, h0 => if x4 < (x0.length : Int) then (if 0 ≤ x4 then (if x4 < (x0.length : Int) then (if 0 ≤ x4 then (if x4 < (h0.length : Int) then (laws_toIntS.l6 k x0 (wrap64 (x4 + 1)) (h0.set x4.toNat (rd x0 x4))) else none) else none) else none) else none) else (some h0)
def laws_toIntS.f (k : Nat) (a0 : List Int) : Option ((List Int)) := if 0 ≤ (a0.length : Int) then (if (a0.length : Int) ≤ (a0.length : Int) then (if (a0.length : Int).toNat ≤ 35184372088832 then (laws_toIntS.l6 k a0 0 (List.replicate (a0.length : Int).toNat 0)) else none) else none) else none
def laws_toIntS.c : FnD := { f := 50, sh := false, ps := [.c (.sl (.int .i64))], pb := [], vc := .c (.own 0), bs := [.arr (.int .i64) .un], R := (List Int), fn := fun k x y => laws_toIntS.f k x.1, out := fun y => ((), (y, ())), inn := fun d => d.2.1, inv := fun _ => rfl }
theorem laws_toIntS.ok : laws_toIntS.c.OK Tryz.prog :=
  FnD.of laws_toIntS.c mix tok (fn := Tryz.f50) Tryz.func50 (by kernel_rfl) (fun _ _ => by kernel_rfl) (by kernel_rfl) (by kernel_rfl) [] trivial
    [{ lbl := 6, live := [(0, none), (3, none), (4, none)], ms := [], vs := [.c (.sl false (.int .i64)), .c (.own 0), .c (.int .i64)], bs := [.arr (.int .i64) .un], f := fun k x y => laws_toIntS.l6 k x.1 x.2.2.1 y.1 }] { c := fun _ => none, cc := [], ms := [], tn := [], sh := false, fm := [] } rfl 5000 ⟨⟨fun _ _ => rfl, fun k x y => by kernel_rfl⟩, trivial⟩ (fun k x y => by kernel_rfl)

/-! ### loop.example/g00076/laws.toChanRow: function 104 -/
def laws_toChanRow.f (a0 : S180) : Option (S77) := some (⟨a0.f0, a0.f1, a0.f2, a0.f3⟩ : S77)
def laws_toChanRow.c : FnD := { f := 104, sh := false, ps := [.agg T180], pb := [], vc := .agg [.int .i64, .int .i64, .int .i64, .int .i64], bs := [], R := S77, fn := fun _ x y => laws_toChanRow.f x.1, out := fun y => ((y.1, y.2.1, y.2.2.1, y.2.2.2, ()), ()), inn := fun d => (d.1.1, d.1.2.1, d.1.2.2.1, d.1.2.2.2.1), inv := fun _ => rfl }
theorem laws_toChanRow.ok : laws_toChanRow.c.OK Tryz.prog :=
  FnD.of laws_toChanRow.c mix tok (fn := Tryz.f104) Tryz.func104 (by kernel_rfl) (fun _ _ => by kernel_rfl) (by kernel_rfl) (by kernel_rfl) [] trivial
    [] { c := fun _ => none, cc := [], ms := [], tn := [], sh := false, fm := [] } rfl 5000 trivial (fun k x y => by kernel_rfl)

/-! ### loop.example/g00076/laws.toChanRowS: function 51 -/
def laws_toChanRowS.l6 : Nat → (List S180) → Int → (List S77) → Option ((List S77))
  | 0, _, _, _ => none
  | k + 1, x0, x4, h0 => if x4 < (x0.length : Int) then (if 0 ≤ x4 then (if x4 < (x0.length : Int) then ((laws_toChanRow.f (rd_T180 x0 x4)).bind fun t1 => (if 0 ≤ x4 then (if x4 < (h0.length : Int) then (laws_toChanRowS.l6 k x0 (wrap64 (x4 + 1)) (h0.set x4.toNat t1)) else none) else none)) else none) else none) else (some h0)
def laws_toChanRowS.f (k : Nat) (a0 : List S180) : Option ((List S77)) := if 0 ≤ (a0.length : Int) then (if (a0.length : Int) ≤ (a0.length : Int) then (if (a0.length : Int).toNat ≤ 8796093022208 then (laws_toChanRowS.l6 k a0 0 (List.replicate (a0.length : Int).toNat z77)) else none) else none) else none
def laws_toChanRowS.c : FnD := { f := 51, sh := false, ps := [.c (.sl T180)], pb := [], vc := .c (.own 0), bs := [.arr T77 .un], R := (List S77), fn := fun k x y => laws_toChanRowS.f k x.1, out := fun y => ((), (y, ())), inn := fun d => d.2.1, inv := fun _ => rfl }
theorem laws_toChanRowS.ok : laws_toChanRowS.c.OK Tryz.prog :=
  FnD.of laws_toChanRowS.c mix tok (fn := Tryz.f51) Tryz.func51 (by kernel_rfl) (fun _ _ => by kernel_rfl) (by kernel_rfl) (by kernel_rfl) [laws_toChanRow.c] ⟨laws_toChanRow.ok, trivial⟩
    [{ lbl := 6, live := [(0, none), (3, none), (4, none)], ms := [], vs := [.c (.sl false T180), .c (.own 0), .c (.int .i64)], bs := [.arr T77 .un], f := fun k x y => laws_toChanRowS.l6 k x.1 x.2.2.1 y.1 }] { c := fun _ => none, cc := [], ms := [], tn := [], sh := false, fm := [] } rfl 5000 ⟨⟨fun _ _ => rfl, fun k x y => by kernel_rfl⟩, trivial⟩ (fun k x y => by kernel_rfl)

/-! ### loop.example/g00076/laws.toSlot: function 105 -/
def laws_toSlot.f (a0 : S184) : Option (S182) := some (⟨a0.f0, a0.f1, a0.f2⟩ : S182)
def laws_toSlot.c : FnD := { f := 105, sh := false, ps := [.agg T184], pb := [], vc := .agg [.int .i64, .int .i64, .int .i64], bs := [], R := S182, fn := fun _ x y => laws_toSlot.f x.1, out := fun y => ((y.1, y.2.1, y.2.2, ()), ()), inn := fun d => (d.1.1, d.1.2.1, d.1.2.2.1), inv := fun _ => rfl }
theorem laws_toSlot.ok : laws_toSlot.c.OK Tryz.prog :=
  FnD.of laws_toSlot.c mix tok (fn := Tryz.f105) Tryz.func105 (by kernel_rfl) (fun _ _ => by kernel_rfl) (by kernel_rfl) (by kernel_rfl) [] trivial
    [] { c := fun _ => none, cc := [], ms := [], tn := [], sh := false, fm := [] } rfl 5000 trivial (fun k x y => by kernel_rfl)

/-! ### loop.example/g00076/laws.toSlotS: function 52 -/
def laws_toSlotS.l6 : Nat → (List S184) → Int → (List S182) → Option ((List S182))
  | 0, _, _, _ => none
  | k + 1, x0, x4, h0 => if x4 < (x0.length : Int) then (if 0 ≤ x4 then (if x4 < (x0.length : Int) then ((laws_toSlot.f (rd_T184 x0 x4)).bind fun t1 => (if 0 ≤ x4 then (if x4 < (h0.length : Int) then (laws_toSlotS.l6 k x0 (wrap64 (x4 + 1)) (h0.set x4.toNat t1)) else none) else none)) else none) else none) else (some h0)
def laws_toSlotS.f (k : Nat) (a0 : List S184) : Option ((List S182)) := if 0 ≤ (a0.length : Int) then (if (a0.length : Int) ≤ (a0.length : Int) then (if (a0.length : Int).toNat ≤ 11728124029610 then (laws_toSlotS.l6 k a0 0 (List.replicate (a0.length : Int).toNat z182)) else none) else none) else none
def laws_toSlotS.c : FnD := { f := 52, sh := false, ps := [.c (.sl T184)], pb := [], vc := .c (.own 0), bs := [.arr T182 .un], R := (List S182), fn := fun k x y => laws_toSlotS.f k x.1, out := fun y => ((), (y, ())), inn := fun d => d.2.1, inv := fun _ => rfl }
theorem laws_toSlotS.ok : laws_toSlotS.c.OK Tryz.prog :=
  FnD.of laws_toSlotS.c mix tok (fn := Tryz.f52) Tryz.func52 (by kernel_rfl) (fun _ _ => by kernel_rfl) (by kernel_rfl) (by kernel_rfl) [laws_toSlot.c] ⟨laws_toSlot.ok, trivial⟩
    [{ lbl := 6, live := [(0, none), (3, none), (4, none)], ms := [], vs := [.c (.sl false T184), .c (.own 0), .c (.int .i64)], bs := [.arr T182 .un], f := fun k x y => laws_toSlotS.l6 k x.1 x.2.2.1 y.1 }] { c := fun _ => none, cc := [], ms := [], tn := [], sh := false, fm := [] } rfl 5000 ⟨⟨fun _ _ => rfl, fun k x y => by kernel_rfl⟩, trivial⟩ (fun k x y => by kernel_rfl)

/-! ### loop.example/g00076/laws.toTables: function 18 -/
def laws_toTables.f (k : Nat) (a0 : S92) : Option (S33) := (laws_toShape.f a0.f1).bind fun t1 => ((laws_toCosts.f a0.f3).bind fun t2 => ((laws_toPartRowS.f k a0.f7).bind fun t3 => ((laws_toIntS.f k a0.f8).bind fun t4 => ((laws_toChanRowS.f k a0.f9).bind fun t5 => ((laws_toSlotS.f k a0.f10).bind fun t6 => (some (⟨a0.f0, t1, a0.f2, t2, a0.f4, a0.f5, a0.f6, t3, t4, t5, t6⟩ : S33)))))))
def laws_toTables.c : FnD := { f := 18, sh := false, ps := [.agg T92], pb := [], vc := .agg [.int .i64, .int .i64, .int .i64, .int .i64, .int .i64, .int .i64, .int .i64, .int .i64, .int .i64, .int .i64, .int .i64, .int .i64, .int .i64, .int .i64, .int .i64, .own 0, .own 1, .own 2, .own 3], bs := [.arr T71 .un, .arr (.int .i64) .un, .arr T77 .un, .arr T182 .un], R := S33, fn := fun k x y => laws_toTables.f k x.1, out := fun y => ((y.1, y.2.1.1, y.2.1.2.1, y.2.1.2.2, y.2.2.1, y.2.2.2.1.1, y.2.2.2.1.2.1, y.2.2.2.1.2.2.1, y.2.2.2.1.2.2.2.1, y.2.2.2.1.2.2.2.2.1, y.2.2.2.1.2.2.2.2.2.1, y.2.2.2.1.2.2.2.2.2.2, y.2.2.2.2.1, y.2.2.2.2.2.1, y.2.2.2.2.2.2.1, (), (), (), (), ()), (y.2.2.2.2.2.2.2.1, y.2.2.2.2.2.2.2.2.1, y.2.2.2.2.2.2.2.2.2.1, y.2.2.2.2.2.2.2.2.2.2, ())), inn := fun d => (d.1.1, (d.1.2.1, d.1.2.2.1, d.1.2.2.2.1), d.1.2.2.2.2.1, (d.1.2.2.2.2.2.1, d.1.2.2.2.2.2.2.1, d.1.2.2.2.2.2.2.2.1, d.1.2.2.2.2.2.2.2.2.1, d.1.2.2.2.2.2.2.2.2.2.1, d.1.2.2.2.2.2.2.2.2.2.2.1, d.1.2.2.2.2.2.2.2.2.2.2.2.1), d.1.2.2.2.2.2.2.2.2.2.2.2.2.1, d.1.2.2.2.2.2.2.2.2.2.2.2.2.2.1, d.1.2.2.2.2.2.2.2.2.2.2.2.2.2.2.1, d.2.1, d.2.2.1, d.2.2.2.1, d.2.2.2.2.1), inv := fun _ => rfl }
theorem laws_toTables.ok : laws_toTables.c.OK Tryz.prog :=
  FnD.of laws_toTables.c mix tok (fn := Tryz.f18) Tryz.func18 (by kernel_rfl) (fun _ _ => by kernel_rfl) (by kernel_rfl) (by kernel_rfl) [laws_toShape.c, laws_toCosts.c, laws_toPartRowS.c, laws_toIntS.c, laws_toChanRowS.c, laws_toSlotS.c] ⟨laws_toShape.ok, ⟨laws_toCosts.ok, ⟨laws_toPartRowS.ok, ⟨laws_toIntS.ok, ⟨laws_toChanRowS.ok, ⟨laws_toSlotS.ok, trivial⟩⟩⟩⟩⟩⟩
    [] { c := fun _ => none, cc := [], ms := [], tn := [], sh := false, fm := [] } rfl 5000 trivial (fun k x y => by kernel_rfl)

/-! ### loop.example/g00076/spec.l01In: function 33 -/
def spec_l01In.f (a0 : Int) (a1 : Int) (a2 : Int) : Option (Bool) := if a0 ≥ a1 then (some (decide (a0 ≤ a2))) else (some false)
def spec_l01In.c : FnD := { f := 33, sh := false, ps := [.c (.int .i64), .c (.int .i64), .c (.int .i64)], pb := [], vc := .c (.bool), bs := [], R := Bool, fn := fun _ x y => spec_l01In.f x.1 x.2.1 x.2.2.1, out := fun y => (y, ()), inn := fun d => d.1, inv := fun _ => rfl }
theorem spec_l01In.ok : spec_l01In.c.OK Tryz.prog :=
  FnD.of spec_l01In.c mix tok (fn := Tryz.f33) Tryz.func33 (by kernel_rfl) (fun _ _ => by kernel_rfl) (by kernel_rfl) (by kernel_rfl) [] trivial
    [] { c := fun _ => none, cc := [], ms := [], tn := [], sh := false, fm := [] } rfl 5000 trivial (fun k x y => by kernel_rfl)

/-! ### loop.example/g00076/spec.ShapeOk: function 137 -/
def spec_ShapeOk.f (a0 : S25) : Option (Bool) := if a0.f0 = 1 then (if a0.f2 = 4 then ((spec_l01In.f a0.f1 1 4).bind fun t1 => (some t1)) else (if a0.f2 = 8 then ((spec_l01In.f a0.f1 1 4).bind fun t2 => (some t2)) else (if a0.f2 = 16 then ((spec_l01In.f a0.f1 1 4).bind fun t3 => (some t3)) else (if a0.f2 = 32 then ((spec_l01In.f a0.f1 1 4).bind fun t4 => (some t4)) else (some false))))) else (if a0.f0 = 2 then (if a0.f2 = 4 then ((spec_l01In.f a0.f1 1 4).bind fun t5 => (some t5)) else (if a0.f2 = 8 then ((spec_l01In.f a0.f1 1 4).bind fun t6 => (some t6)) else (if a0.f2 = 16 then ((spec_l01In.f a0.f1 1 4).bind fun t7 => (some t7)) else (if a0.f2 = 32 then ((spec_l01In.f a0.f1 1 4).bind fun t8 => (some t8)) else (some false))))) else (if a0.f0 = 4 then (if a0.f2 = 4 then ((spec_l01In.f a0.f1 1 4).bind fun t9 => (some t9)) else (if a0.f2 = 8 then ((spec_l01In.f a0.f1 1 4).bind fun t10 => (some t10)) else (if a0.f2 = 16 then ((spec_l01In.f a0.f1 1 4).bind fun t11 => (some t11)) else (if a0.f2 = 32 then ((spec_l01In.f a0.f1 1 4).bind fun t12 => (some t12)) else (some false))))) else (if a0.f0 = 8 then (if a0.f2 = 4 then ((spec_l01In.f a0.f1 1 4).bind fun t13 => (some t13)) else (if a0.f2 = 8 then ((spec_l01In.f a0.f1 1 4).bind fun t14 => (some t14)) else (if a0.f2 = 16 then ((spec_l01In.f a0.f1 1 4).bind fun t15 => (some t15)) else (if a0.f2 = 32 then ((spec_l01In.f a0.f1 1 4).bind fun t16 => (some t16)) else (some false))))) else (if a0.f2 = 4 then (if a0.f0 = 16 then ((spec_l01In.f a0.f1 1 4).bind fun t17 => (some t17)) else (some false)) else (if a0.f2 = 8 then (if a0.f0 = 16 then ((spec_l01In.f a0.f1 1 4).bind fun t18 => (some t18)) else (some false)) else (if a0.f2 = 16 then (if a0.f0 = 16 then ((spec_l01In.f a0.f1 1 4).bind fun t19 => (some t19)) else (some false)) else (if a0.f0 = 16 then (if a0.f2 = 32 then ((spec_l01In.f a0.f1 1 4).bind fun t20 => (some t20)) else (some false)) else (some false))))))))
def spec_ShapeOk.c : FnD := { f := 137, sh := false, ps := [.agg T25], pb := [], vc := .c (.bool), bs := [], R := Bool, fn := fun _ x y => spec_ShapeOk.f x.1, out := fun y => (y, ()), inn := fun d => d.1, inv := fun _ => rfl }
theorem spec_ShapeOk.ok : spec_ShapeOk.c.OK Tryz.prog :=
  FnD.of spec_ShapeOk.c mix tok (fn := Tryz.f137) Tryz.func137 (by kernel_rfl) (fun _ _ => by kernel_rfl) (by kernel_rfl) (by kernel_rfl) [spec_l01In.c] ⟨spec_l01In.ok, trivial⟩
    [] { c := fun _ => none, cc := [], ms := [], tn := [], sh := false, fm := [] } rfl 5000 trivial (fun k x y => by kernel_rfl)

/-! ### loop.example/g00076/spec.CostsOk: function 138 -/
def spec_CostsOk.f (a0 : S27) : Option (Bool) := (spec_l01In.f a0.f0 1 20).bind fun t1 => (if t1 = true then ((spec_l01In.f a0.f1 0 50).bind fun t2 => (if t2 = true then ((spec_l01In.f a0.f2 0 50).bind fun t3 => (if t3 = true then ((spec_l01In.f a0.f3 0 50).bind fun t4 => (if t4 = true then ((spec_l01In.f a0.f4 0 50).bind fun t5 => (if t5 = true then ((spec_l01In.f a0.f5 0 50).bind fun t6 => (if t6 = true then ((spec_l01In.f a0.f6 0 50).bind fun t7 => (some t7)) else (some false))) else (some false))) else (some false))) else (some false))) else (some false))) else (some false))
def spec_CostsOk.c : FnD := { f := 138, sh := false, ps := [.agg T27], pb := [], vc := .c (.bool), bs := [], R := Bool, fn := fun _ x y => spec_CostsOk.f x.1, out := fun y => (y, ()), inn := fun d => d.1, inv := fun _ => rfl }
theorem spec_CostsOk.ok : spec_CostsOk.c.OK Tryz.prog :=
  FnD.of spec_CostsOk.c mix tok (fn := Tryz.f138) Tryz.func138 (by kernel_rfl) (fun _ _ => by kernel_rfl) (by kernel_rfl) (by kernel_rfl) [spec_l01In.c] ⟨spec_l01In.ok, trivial⟩
    [] { c := fun _ => none, cc := [], ms := [], tn := [], sh := false, fm := [] } rfl 5000 trivial (fun k x y => by kernel_rfl)

/-! ### loop.example/g00076/spec.l02Forms: function 219 -/
def spec_l02Forms.f : Option ((List Int)) := some ([0, 7, 7, 7, 7, 7, 7, 7, 7, 7, 7, 7, 7, 11, 9, 11, 11, 11, 11, 11, 11, 11, 9, 10, 1, 11, 11, 11, 9, 9, 0, 0, 8] : List Int)
def spec_l02Forms.c : FnD := { f := 219, sh := false, ps := [], pb := [], vc := .c (.own 0), bs := [.arr (.int .i64) .un], R := (List Int), fn := fun _ x y => spec_l02Forms.f, out := fun y => ((), (y, ())), inn := fun d => d.2.1, inv := fun _ => rfl }
theorem spec_l02Forms.ok : spec_l02Forms.c.OK Tryz.prog :=
  FnD.of spec_l02Forms.c mix tok (fn := Tryz.f219) Tryz.func219 (by kernel_rfl) (fun _ _ => by kernel_rfl) (by kernel_rfl) (by kernel_rfl) [] trivial
    [] { c := fun _ => none, cc := [], ms := [], tn := [], sh := false, fm := [] } rfl 5000 trivial (fun k x y => by kernel_rfl)

/-! ### loop.example/g00076/spec.FormOf: function 190 -/
def spec_FormOf.f (a0 : Int) : Option (Int) := (spec_l01In.f a0 0 32).bind fun t1 => (if t1 = true then ((spec_l02Forms.f).bind fun t2 => (if 0 ≤ a0 then (if a0 < (t2.length : Int) then (some (rd t2 a0)) else none) else none)) else (some (-1)))
def spec_FormOf.c : FnD := { f := 190, sh := false, ps := [.c (.int .i64)], pb := [], vc := .c (.int .i64), bs := [], R := Int, fn := fun _ x y => spec_FormOf.f x.1, out := fun y => (y, ()), inn := fun d => d.1, inv := fun _ => rfl }
theorem spec_FormOf.ok : spec_FormOf.c.OK Tryz.prog :=
  FnD.of spec_FormOf.c mix tok (fn := Tryz.f190) Tryz.func190 (by kernel_rfl) (fun _ _ => by kernel_rfl) (by kernel_rfl) (by kernel_rfl) [spec_l01In.c, spec_l02Forms.c] ⟨spec_l01In.ok, ⟨spec_l02Forms.ok, trivial⟩⟩
    [] { c := fun _ => none, cc := [], ms := [], tn := [], sh := false, fm := [] } rfl 5000 trivial (fun k x y => by kernel_rfl)

/-! ### loop.example/g00076/spec.OpCost: function 157 -/
def spec_OpCost.f (a0 : S27) (a1 : Int) : Option (Int) := (spec_CostsOk.f a0).bind fun t1 => (if t1 = true then ((spec_FormOf.f a1).bind fun t2 => (if t2 < 0 then (some (-1)) else (if a1 = 9 then (some (wrap64 (a0.f0 + a0.f1))) else (if a1 = 10 then (some (wrap64 (a0.f0 + a0.f1))) else ((spec_l01In.f a1 15 18).bind fun t3 => (if t3 = true then (some (wrap64 (a0.f0 + a0.f2))) else (if a1 ≥ 25 then (some (wrap64 (a0.f0 + a0.f5))) else (some a0.f0)))))))) else (some (-1)))
def spec_OpCost.c : FnD := { f := 157, sh := false, ps := [.agg T27, .c (.int .i64)], pb := [], vc := .c (.int .i64), bs := [], R := Int, fn := fun _ x y => spec_OpCost.f x.1 x.2.1, out := fun y => (y, ()), inn := fun d => d.1, inv := fun _ => rfl }
theorem spec_OpCost.ok : spec_OpCost.c.OK Tryz.prog :=
  FnD.of spec_OpCost.c mix tok (fn := Tryz.f157) Tryz.func157 (by kernel_rfl) (fun _ _ => by kernel_rfl) (by kernel_rfl) (by kernel_rfl) [spec_CostsOk.c, spec_FormOf.c, spec_l01In.c] ⟨spec_CostsOk.ok, ⟨spec_FormOf.ok, ⟨spec_l01In.ok, trivial⟩⟩⟩
    [] { c := fun _ => none, cc := [], ms := [], tn := [], sh := false, fm := [] } rfl 5000 trivial (fun k x y => by kernel_rfl)

/-! ### loop.example/g00076/spec.AccessCost: function 191 -/
def spec_AccessCost.f (a0 : S27) (a1 : S233) : Option (Int) := (spec_CostsOk.f a0).bind fun t1 => (if t1 = true then (if a1.f0 = true then (if a1.f1 = true then (if a1.f2 = true then (some (wrap64 (0 + a0.f6))) else (some 0)) else (if a1.f2 = true then (some (wrap64 ((wrap64 (0 + a0.f4)) + a0.f6))) else (some (wrap64 (0 + a0.f4))))) else (if a1.f1 = true then (if a1.f2 = true then (some (wrap64 ((wrap64 (0 + a0.f3)) + a0.f6))) else (some (wrap64 (0 + a0.f3)))) else (if a1.f2 = true then (some (wrap64 ((wrap64 ((wrap64 (0 + a0.f3)) + a0.f4)) + a0.f6))) else (some (wrap64 ((wrap64 (0 + a0.f3)) + a0.f4)))))) else (some (-1)))
def spec_AccessCost.c : FnD := { f := 191, sh := false, ps := [.agg T27, .agg T233], pb := [], vc := .c (.int .i64), bs := [], R := Int, fn := fun _ x y => spec_AccessCost.f x.1 x.2.1, out := fun y => (y, ()), inn := fun d => d.1, inv := fun _ => rfl }
theorem spec_AccessCost.ok : spec_AccessCost.c.OK Tryz.prog :=
  FnD.of spec_AccessCost.c mix tok (fn := Tryz.f191) Tryz.func191 (by kernel_rfl) (fun _ _ => by kernel_rfl) (by kernel_rfl) (by kernel_rfl) [spec_CostsOk.c] ⟨spec_CostsOk.ok, trivial⟩
    [] { c := fun _ => none, cc := [], ms := [], tn := [], sh := false, fm := [] } rfl 5000 trivial (fun k x y => by kernel_rfl)

/-! ### loop.example/g00076/spec.WorstAccess: function 158 -/
def spec_WorstAccess.l6 : Nat → Int → Int → S27 → Option (Int)
  | 0, _, _, _ => none
  | k + 1, x3, x4, y0 => if x4 < 8 then ((spec_AccessCost.f y0 (⟨(decide ((Int.tmod x4 2) = 1)), (decide ((Int.tmod (wrap64 (Int.tdiv x4 2)) 2) = 1)), (decide ((wrap64 (Int.tdiv x4 4)) = 1))⟩ : S233)).bind fun t1 => (if t1 > x3 then (spec_WorstAccess.l6 k t1 (wrap64 (x4 + 1)) y0) else (spec_WorstAccess.l6 k x3 (wrap64 (x4 + 1)) y0))) else (some x3)
def spec_WorstAccess.f (k : Nat) (a0 : S27) : Option (Int) := spec_WorstAccess.l6 k (-1) 0 a0
def spec_WorstAccess.c : FnD := { f := 158, sh := false, ps := [.agg T27], pb := [], vc := .c (.int .i64), bs := [], R := Int, fn := fun k x y => spec_WorstAccess.f k x.1, out := fun y => (y, ()), inn := fun d => d.1, inv := fun _ => rfl }
theorem spec_WorstAccess.ok : spec_WorstAccess.c.OK Tryz.prog :=
  FnD.of spec_WorstAccess.c mix tok (fn := Tryz.f158) Tryz.func158 (by kernel_rfl) (fun _ _ => by kernel_rfl) (by kernel_rfl) (by kernel_rfl) [spec_AccessCost.c] ⟨spec_AccessCost.ok, trivial⟩
    [{ lbl := 6, live := [(1, none), (3, none), (4, none)], ms := [], vs := [.c (.ptr 0 0), .c (.int .i64), .c (.int .i64)], bs := [.cells 27 [.int .i64, .int .i64, .int .i64, .int .i64, .int .i64, .int .i64, .int .i64]], f := fun k x y => spec_WorstAccess.l6 k x.2.1 x.2.2.1 (y.1.1, y.1.2.1, y.1.2.2.1, y.1.2.2.2.1, y.1.2.2.2.2.1, y.1.2.2.2.2.2.1, y.1.2.2.2.2.2.2.1) }] { c := fun _ => none, cc := [], ms := [], tn := [], sh := false, fm := [] } rfl 5000 ⟨⟨fun _ _ => rfl, fun k x y => by kernel_rfl⟩, trivial⟩ (fun k x y => by kernel_rfl)

/-! ### loop.example/g00076/spec.WorstStep: function 113 -/
def spec_WorstStep.l10 : Nat → Int → Int → S27 → Option (Int)
  | 0, _, _, _ => none
  | k + 1, x3, x4, y0 => if x4 < 33 then ((spec_OpCost.f y0 x4).bind fun t2 => (if t2 > x3 then ((spec_OpCost.f y0 x4).bind fun t3 => (spec_WorstStep.l10 k t3 (wrap64 (x4 + 1)) y0)) else (spec_WorstStep.l10 k x3 (wrap64 (x4 + 1)) y0))) else ((spec_WorstAccess.f k y0).bind fun t4 => (some (wrap64 ((wrap64 (x3 + (wrap64 (2 * t4)))) + y0.f5))))
def spec_WorstStep.f (k : Nat) (a0 : S27) : Option (Int) := (spec_CostsOk.f a0).bind fun t1 => (if t1 = true then (spec_WorstStep.l10 k 0 0 a0) else (some (-1)))
def spec_WorstStep.c : FnD := { f := 113, sh := false, ps := [.agg T27], pb := [], vc := .c (.int .i64), bs := [], R := Int, fn := fun k x y => spec_WorstStep.f k x.1, out := fun y => (y, ()), inn := fun d => d.1, inv := fun _ => rfl }
theorem spec_WorstStep.ok : spec_WorstStep.c.OK Tryz.prog :=
  FnD.of spec_WorstStep.c mix tok (fn := Tryz.f113) Tryz.func113 (by kernel_rfl) (fun _ _ => by kernel_rfl) (by kernel_rfl) (by kernel_rfl) [spec_CostsOk.c, spec_OpCost.c, spec_WorstAccess.c] ⟨spec_CostsOk.ok, ⟨spec_OpCost.ok, ⟨spec_WorstAccess.ok, trivial⟩⟩⟩
    [{ lbl := 10, live := [(1, none), (3, none), (4, none)], ms := [], vs := [.c (.ptr 0 0), .c (.int .i64), .c (.int .i64)], bs := [.cells 27 [.int .i64, .int .i64, .int .i64, .int .i64, .int .i64, .int .i64, .int .i64]], f := fun k x y => spec_WorstStep.l10 k x.2.1 x.2.2.1 (y.1.1, y.1.2.1, y.1.2.2.1, y.1.2.2.2.1, y.1.2.2.2.2.1, y.1.2.2.2.2.2.1, y.1.2.2.2.2.2.2.1) }] { c := fun _ => none, cc := [], ms := [], tn := [], sh := false, fm := [] } rfl 5000 ⟨⟨fun _ _ => rfl, fun k x y => by kernel_rfl⟩, trivial⟩ (fun k x y => by kernel_rfl)

/-! ### loop.example/g00076/spec.l13Head: function 87 -/
def spec_l13Head.f (k : Nat) (a0 : S33) : Option (Bool) := (spec_l01In.f a0.f0 64 2048).bind fun t1 => (if t1 = true then (if (Int.tmod a0.f0 4) = 0 then ((spec_ShapeOk.f a0.f1).bind fun t2 => (if t2 = true then ((spec_l01In.f a0.f2 1 8).bind fun t3 => (if t3 = true then ((spec_CostsOk.f a0.f3).bind fun t4 => (if t4 = true then ((spec_l01In.f a0.f4 1 5000).bind fun t5 => (if t5 = true then ((spec_l01In.f a0.f5 1 5000).bind fun t6 => (if t6 = true then ((spec_l01In.f a0.f6 1 5000).bind fun t7 => (if t7 = true then ((spec_WorstStep.f k a0.f3).bind fun t8 => (some (decide (a0.f5 ≥ t8)))) else (some false))) else (some false))) else (some false))) else (some false))) else (some false))) else (some false))) else (some false)) else (some false))
def spec_l13Head.c : FnD := { f := 87, sh := false, ps := [.agg T33], pb := [], vc := .c (.bool), bs := [], R := Bool, fn := fun k x y => spec_l13Head.f k x.1, out := fun y => (y, ()), inn := fun d => d.1, inv := fun _ => rfl }
theorem spec_l13Head.ok : spec_l13Head.c.OK Tryz.prog :=
  FnD.of spec_l13Head.c mix tok (fn := Tryz.f87) Tryz.func87 (by kernel_rfl) (fun _ _ => by kernel_rfl) (by kernel_rfl) (by kernel_rfl) [spec_l01In.c, spec_ShapeOk.c, spec_CostsOk.c, spec_WorstStep.c] ⟨spec_l01In.ok, ⟨spec_ShapeOk.ok, ⟨spec_CostsOk.ok, ⟨spec_WorstStep.ok, trivial⟩⟩⟩⟩
    [] { c := fun _ => none, cc := [], ms := [], tn := [], sh := false, fm := [] } rfl 5000 trivial (fun k x y => by kernel_rfl)

/-! ### loop.example/g00076/spec.LabelOk: function 207 -/
def spec_LabelOk.l4 : Nat → ByteArray → Int → Option (Bool)
  | 0, _, _ => none
  | k + 1, x0, x3 => if x3 < (x0.size : Int) then (if x3 < 13 then (if 0 ≤ x3 then (if x3 < (x0.size : Int) then ((spec_l01In.f (wrap64 ((bt x0 x3))) 97 122).bind fun t1 => (if t1 = true then (spec_LabelOk.l4 k x0 (wrap64 (x3 + 1))) else (some false))) else none) else none) else ((spec_l01In.f (x0.size : Int) 1 12).bind fun t2 => (some t2))) else ((spec_l01In.f (x0.size : Int) 1 12).bind fun t3 => (some t3))
def spec_LabelOk.f (k : Nat) (a0 : ByteArray) : Option (Bool) := spec_LabelOk.l4 k a0 0
def spec_LabelOk.c : FnD := { f := 207, sh := false, ps := [.c .str], pb := [], vc := .c (.bool), bs := [], R := Bool, fn := fun k x y => spec_LabelOk.f k x.1, out := fun y => (y, ()), inn := fun d => d.1, inv := fun _ => rfl }
theorem spec_LabelOk.ok : spec_LabelOk.c.OK Tryz.prog :=
  FnD.of spec_LabelOk.c mix tok (fn := Tryz.f207) Tryz.func207 (by kernel_rfl) (fun _ _ => by kernel_rfl) (by kernel_rfl) (by kernel_rfl) [spec_l01In.c] ⟨spec_l01In.ok, trivial⟩
    [{ lbl := 4, live := [(0, none), (3, none)], ms := [], vs := [.c (.str), .c (.int .i64)], bs := [], f := fun k x y => spec_LabelOk.l4 k x.1 x.2.1 }] { c := fun _ => none, cc := [], ms := [], tn := [], sh := false, fm := [] } rfl 5000 ⟨⟨fun _ _ => rfl, fun k x y => by kernel_rfl⟩, trivial⟩ (fun k x y => by kernel_rfl)

/-! ### loop.example/g00076/spec.NameOk: function 177 -/
def spec_NameOk.f (k : Nat) (a0 : ByteArray) : Option (Bool) := if (a0.size : Int) ≤ 8 then ((spec_LabelOk.f k a0).bind fun t1 => (some t1)) else (some false)
def spec_NameOk.c : FnD := { f := 177, sh := false, ps := [.c .str], pb := [], vc := .c (.bool), bs := [], R := Bool, fn := fun k x y => spec_NameOk.f k x.1, out := fun y => (y, ()), inn := fun d => d.1, inv := fun _ => rfl }
theorem spec_NameOk.ok : spec_NameOk.c.OK Tryz.prog :=
  FnD.of spec_NameOk.c mix tok (fn := Tryz.f177) Tryz.func177 (by kernel_rfl) (fun _ _ => by kernel_rfl) (by kernel_rfl) (by kernel_rfl) [spec_LabelOk.c] ⟨spec_LabelOk.ok, trivial⟩
    [] { c := fun _ => none, cc := [], ms := [], tn := [], sh := false, fm := [] } rfl 5000 trivial (fun k x y => by kernel_rfl)

/-! ### loop.example/g00076/spec.PolicyOk: function 178 -/
def spec_PolicyOk.f (a0 : S68) : Option (Bool) := if a0.f0 = 1 then ((spec_l01In.f a0.f1 0 100).bind fun t1 => (some t1)) else (if a0.f0 = 0 then (some (decide (a0.f1 = 0))) else (if a0.f0 = 2 then (some (decide (a0.f1 = 0))) else (some false)))
def spec_PolicyOk.c : FnD := { f := 178, sh := false, ps := [.agg T68], pb := [], vc := .c (.bool), bs := [], R := Bool, fn := fun _ x y => spec_PolicyOk.f x.1, out := fun y => (y, ()), inn := fun d => d.1, inv := fun _ => rfl }
theorem spec_PolicyOk.ok : spec_PolicyOk.c.OK Tryz.prog :=
  FnD.of spec_PolicyOk.c mix tok (fn := Tryz.f178) Tryz.func178 (by kernel_rfl) (fun _ _ => by kernel_rfl) (by kernel_rfl) (by kernel_rfl) [spec_l01In.c] ⟨spec_l01In.ok, trivial⟩
    [] { c := fun _ => none, cc := [], ms := [], tn := [], sh := false, fm := [] } rfl 5000 trivial (fun k x y => by kernel_rfl)

/-! ### loop.example/g00076/spec.WindowOk: function 179 -/
def spec_WindowOk.f (a0 : S66) : Option (Bool) := (spec_l01In.f a0.f0 0 2048).bind fun t1 => (if t1 = true then ((spec_l01In.f a0.f1 4 2048).bind fun t2 => (if t2 = true then (if (Int.tmod a0.f0 4) = 0 then (if (Int.tmod a0.f1 4) = 0 then (if (wrap64 (a0.f0 + a0.f1)) ≤ 2048 then ((spec_l01In.f a0.f2 1 7).bind fun t3 => (some t3)) else (some false)) else (some false)) else (some false)) else (some false))) else (some false))
def spec_WindowOk.c : FnD := { f := 179, sh := false, ps := [.agg T66], pb := [], vc := .c (.bool), bs := [], R := Bool, fn := fun _ x y => spec_WindowOk.f x.1, out := fun y => (y, ()), inn := fun d => d.1, inv := fun _ => rfl }
theorem spec_WindowOk.ok : spec_WindowOk.c.OK Tryz.prog :=
  FnD.of spec_WindowOk.c mix tok (fn := Tryz.f179) Tryz.func179 (by kernel_rfl) (fun _ _ => by kernel_rfl) (by kernel_rfl) (by kernel_rfl) [spec_l01In.c] ⟨spec_l01In.ok, trivial⟩
    [] { c := fun _ => none, cc := [], ms := [], tn := [], sh := false, fm := [] } rfl 5000 trivial (fun k x y => by kernel_rfl)

/-! ### loop.example/g00076/spec.l07Has: function 180 -/
def spec_l07Has.f (a0 : S66) (a1 : Int) : Option (Bool) := if a1 ≥ a0.f0 then (some (decide (a1 < (wrap64 (a0.f0 + a0.f1))))) else (some false)
def spec_l07Has.c : FnD := { f := 180, sh := false, ps := [.agg T66, .c (.int .i64)], pb := [], vc := .c (.bool), bs := [], R := Bool, fn := fun _ x y => spec_l07Has.f x.1 x.2.1, out := fun y => (y, ()), inn := fun d => d.1, inv := fun _ => rfl }
theorem spec_l07Has.ok : spec_l07Has.c.OK Tryz.prog :=
  FnD.of spec_l07Has.c mix tok (fn := Tryz.f180) Tryz.func180 (by kernel_rfl) (fun _ _ => by kernel_rfl) (by kernel_rfl) (by kernel_rfl) [] trivial
    [] { c := fun _ => none, cc := [], ms := [], tn := [], sh := false, fm := [] } rfl 5000 trivial (fun k x y => by kernel_rfl)

/-! ### loop.example/g00076/spec.l13PartOk: function 139 -/
def spec_l13PartOk.l10 : Nat → Int → Bool → Int → S71 → Option (Bool)
  | 0, _, _, _, _ => none
  | k + 1, x1, x5, x6, y0 => if x6 < (y0.f3.length : Int) then (if 0 ≤ x6 then (if x6 < (y0.f3.length : Int) then ((spec_WindowOk.f (rd_T66 y0.f3 x6)).bind fun t4 => (if t4 = true then (if (wrap64 (((rd_T66 y0.f3 x6).f0) + ((rd_T66 y0.f3 x6).f1))) > x1 then (some false) else ((spec_l07Has.f (rd_T66 y0.f3 x6) y0.f1).bind fun t5 => (if t5 = true then (if (wrap64 (Int.tdiv ((rd_T66 y0.f3 x6).f2) 4)) = 1 then (spec_l13PartOk.l10 k x1 true (wrap64 (x6 + 1)) y0) else (spec_l13PartOk.l10 k x1 x5 (wrap64 (x6 + 1)) y0)) else (spec_l13PartOk.l10 k x1 x5 (wrap64 (x6 + 1)) y0)))) else (some false))) else none) else none) else (if x5 = true then (some (decide ((Int.tmod y0.f1 4) = 0))) else (some false))
def spec_l13PartOk.f (k : Nat) (a0 : S71) (a1 : Int) : Option (Bool) := (spec_NameOk.f k a0.f0).bind fun t1 => (if t1 = true then ((spec_PolicyOk.f a0.f2).bind fun t2 => (if t2 = true then ((spec_l01In.f (a0.f3.length : Int) 1 4).bind fun t3 => (if t3 = true then (spec_l13PartOk.l10 k a1 false 0 a0) else (some false))) else (some false))) else (some false))
def spec_l13PartOk.c : FnD := { f := 139, sh := false, ps := [.agg T71, .c (.int .i64)], pb := [], vc := .c (.bool), bs := [], R := Bool, fn := fun k x y => spec_l13PartOk.f k x.1 x.2.1, out := fun y => (y, ()), inn := fun d => d.1, inv := fun _ => rfl }
theorem spec_l13PartOk.ok : spec_l13PartOk.c.OK Tryz.prog :=
  FnD.of spec_l13PartOk.c mix tok (fn := Tryz.f139) Tryz.func139 (by kernel_rfl) (fun _ _ => by kernel_rfl) (by kernel_rfl) (by kernel_rfl) [spec_NameOk.c, spec_PolicyOk.c, spec_l01In.c, spec_WindowOk.c, spec_l07Has.c] ⟨spec_NameOk.ok, ⟨spec_PolicyOk.ok, ⟨spec_l01In.ok, ⟨spec_WindowOk.ok, ⟨spec_l07Has.ok, trivial⟩⟩⟩⟩⟩
    [{ lbl := 10, live := [(1, none), (2, none), (5, none), (6, none)], ms := [], vs := [.c (.int .i64), .c (.ptr 0 0), .c (.bool), .c (.int .i64)], bs := [.cells 71 [.str, .int .i64, .int .i64, .int .i64, .sl false T66]], f := fun k x y => spec_l13PartOk.l10 k x.1 x.2.2.1 x.2.2.2.1 (y.1.1, y.1.2.1, (y.1.2.2.1, y.1.2.2.2.1), y.1.2.2.2.2.1) }] { c := fun _ => none, cc := [], ms := [], tn := [], sh := false, fm := [] } rfl 5000 ⟨⟨fun _ _ => rfl, fun k x y => by kernel_rfl⟩, trivial⟩ (fun k x y => by kernel_rfl)

/-! ### loop.example/g00076/spec.l13Windows: function 140 -/
def spec_l13Windows.l6 : Nat → (List S71) → Int → (List S66) → Option ((List S66))
  | 0, _, _, _ => none
  | k + 1, x0, x4, h0 => if x4 < (x0.length : Int) then (if 0 ≤ x4 then (if x4 < (x0.length : Int) then (if h0.length + ((rd_T71 x0 x4).f3).length < 5864062014805 then (spec_l13Windows.l6 k x0 (wrap64 (x4 + 1)) (h0 ++ ((rd_T71 x0 x4).f3))) else none) else none) else none) else (some h0)
def spec_l13Windows.f (k : Nat) (a0 : List S71) : Option ((List S66)) := spec_l13Windows.l6 k a0 0 ([] : List S66)
def spec_l13Windows.c : FnD := { f := 140, sh := false, ps := [.c (.sl T71)], pb := [], vc := .c (.own 0), bs := [.arr T66 .un], R := (List S66), fn := fun k x y => spec_l13Windows.f k x.1, out := fun y => ((), (y, ())), inn := fun d => d.2.1, inv := fun _ => rfl }
theorem spec_l13Windows.ok : spec_l13Windows.c.OK Tryz.prog :=
  FnD.of spec_l13Windows.c mix tok (fn := Tryz.f140) Tryz.func140 (by kernel_rfl) (fun _ _ => by kernel_rfl) (by kernel_rfl) (by kernel_rfl) [] trivial
    [{ lbl := 6, live := [(0, none), (3, none), (4, none)], ms := [], vs := [.c (.sl false T71), .c (.own 0), .c (.int .i64)], bs := [.arr T66 .un], f := fun k x y => spec_l13Windows.l6 k x.1 x.2.2.1 y.1 }] { c := fun _ => none, cc := [], ms := [], tn := [], sh := false, fm := [] } rfl 5000 ⟨⟨fun _ _ => rfl, fun k x y => by kernel_rfl⟩, trivial⟩ (fun k x y => by kernel_rfl)

/-! ### loop.example/g00076/spec.l13Parts: function 88 -/
mutual
def spec_l13Parts.l8 : Nat → Int → S33 → Option (Bool)
  | 0, _, _ => none
  | k + 1, x3, y0 => if x3 < (y0.f7.length : Int) then (if 0 ≤ x3 then (if x3 < (y0.f7.length : Int) then ((spec_l13PartOk.f k (rd_T71 y0.f7 x3) y0.f0).bind fun t2 => (if t2 = true then (spec_l13Parts.l18 k x3 0 y0) else (some false))) else none) else none) else ((spec_l13Windows.f k y0.f7).bind fun t3 => (spec_l13Parts.l30 k 0 t3))
def spec_l13Parts.l18 : Nat → Int → Int → S33 → Option (Bool)
  | 0, _, _, _ => none
  | k + 1, x3, x4, y0 => if x4 < x3 then (if 0 ≤ x4 then (if x4 < (y0.f7.length : Int) then (if 0 ≤ x3 then (if x3 < (y0.f7.length : Int) then (if (rd_T71 y0.f7 x4).f0 = (rd_T71 y0.f7 x3).f0 then (some false) else (spec_l13Parts.l18 k x3 (wrap64 (x4 + 1)) y0)) else none) else none) else none) else none) else (spec_l13Parts.l8 k (wrap64 (x3 + 1)) y0)
def spec_l13Parts.l30 : Nat → Int → (List S66) → Option (Bool)
  | 0, _, _ => none
  | k + 1, x6, h0 => if x6 < (lenZ h0) then (spec_l13Parts.l36 k x6 0 h0) else (some true)
def spec_l13Parts.l36 : Nat → Int → Int → (List S66) → Option (Bool)
  | 0, _, _, _ => none
  | k + 1, x6, x7, h0 => if x7 < x6 then (if 0 ≤ x7 then (if x7 < (h0.length : Int) then (if 0 ≤ x6 then (if x6 < (h0.length : Int) then (if 0 ≤ x6 then (if x6 < (h0.length : Int) then (if (rd_T66 h0 x7).f0 < (wrap64 (((rd_T66 h0 x6).f0) + ((rd_T66 h0 x6).f1))) then (if 0 ≤ x6 then (if x6 < (h0.length : Int) then (if 0 ≤ x7 then (if x7 < (h0.length : Int) then (if 0 ≤ x7 then (if x7 < (h0.length : Int) then (if (rd_T66 h0 x6).f0 < (wrap64 (((rd_T66 h0 x7).f0) + ((rd_T66 h0 x7).f1))) then (some false) else (spec_l13Parts.l36 k x6 (wrap64 (x7 + 1)) h0)) else none) else none) else none) else none) else none) else none) else (spec_l13Parts.l36 k x6 (wrap64 (x7 + 1)) h0)) else none) else none) else none) else none) else none) else none) else (spec_l13Parts.l30 k (wrap64 (x6 + 1)) h0)
end
def spec_l13Parts.f (k : Nat) (a0 : S33) : Option (Bool) := (spec_l01In.f (a0.f7.length : Int) 1 6).bind fun t1 => (if t1 = true then (spec_l13Parts.l8 k 0 a0) else (some false))
def spec_l13Parts.c : FnD := { f := 88, sh := false, ps := [.agg T33], pb := [], vc := .c (.bool), bs := [], R := Bool, fn := fun k x y => spec_l13Parts.f k x.1, out := fun y => (y, ()), inn := fun d => d.1, inv := fun _ => rfl }
theorem spec_l13Parts.ok : spec_l13Parts.c.OK Tryz.prog :=
  FnD.of spec_l13Parts.c mix tok (fn := Tryz.f88) Tryz.func88 (by kernel_rfl) (fun _ _ => by kernel_rfl) (by kernel_rfl) (by kernel_rfl) [spec_l01In.c, spec_l13PartOk.c, spec_l13Windows.c] ⟨spec_l01In.ok, ⟨spec_l13PartOk.ok, ⟨spec_l13Windows.ok, trivial⟩⟩⟩
    [{ lbl := 8, live := [(1, none), (3, none)], ms := [], vs := [.c (.ptr 0 0), .c (.int .i64)], bs := [.cells 33 [.int .i64, .int .i64, .int .i64, .int .i64, .int .i64, .int .i64, .int .i64, .int .i64, .int .i64, .int .i64, .int .i64, .int .i64, .int .i64, .int .i64, .int .i64, .sl false T71, .sl false (.int .i64), .sl false T77, .sl false T182]], f := fun k x y => spec_l13Parts.l8 k x.2.1 (y.1.1, (y.1.2.1, y.1.2.2.1, y.1.2.2.2.1), y.1.2.2.2.2.1, (y.1.2.2.2.2.2.1, y.1.2.2.2.2.2.2.1, y.1.2.2.2.2.2.2.2.1, y.1.2.2.2.2.2.2.2.2.1, y.1.2.2.2.2.2.2.2.2.2.1, y.1.2.2.2.2.2.2.2.2.2.2.1, y.1.2.2.2.2.2.2.2.2.2.2.2.1), y.1.2.2.2.2.2.2.2.2.2.2.2.2.1, y.1.2.2.2.2.2.2.2.2.2.2.2.2.2.1, y.1.2.2.2.2.2.2.2.2.2.2.2.2.2.2.1, y.1.2.2.2.2.2.2.2.2.2.2.2.2.2.2.2.1, y.1.2.2.2.2.2.2.2.2.2.2.2.2.2.2.2.2.1, y.1.2.2.2.2.2.2.2.2.2.2.2.2.2.2.2.2.2.1, y.1.2.2.2.2.2.2.2.2.2.2.2.2.2.2.2.2.2.2.1) },
      { lbl := 18, live := [(1, none), (3, none), (4, none)], ms := [], vs := [.c (.ptr 0 0), .c (.int .i64), .c (.int .i64)], bs := [.cells 33 [.int .i64, .int .i64, .int .i64, .int .i64, .int .i64, .int .i64, .int .i64, .int .i64, .int .i64, .int .i64, .int .i64, .int .i64, .int .i64, .int .i64, .int .i64, .sl false T71, .sl false (.int .i64), .sl false T77, .sl false T182]], f := fun k x y => spec_l13Parts.l18 k x.2.1 x.2.2.1 (y.1.1, (y.1.2.1, y.1.2.2.1, y.1.2.2.2.1), y.1.2.2.2.2.1, (y.1.2.2.2.2.2.1, y.1.2.2.2.2.2.2.1, y.1.2.2.2.2.2.2.2.1, y.1.2.2.2.2.2.2.2.2.1, y.1.2.2.2.2.2.2.2.2.2.1, y.1.2.2.2.2.2.2.2.2.2.2.1, y.1.2.2.2.2.2.2.2.2.2.2.2.1), y.1.2.2.2.2.2.2.2.2.2.2.2.2.1, y.1.2.2.2.2.2.2.2.2.2.2.2.2.2.1, y.1.2.2.2.2.2.2.2.2.2.2.2.2.2.2.1, y.1.2.2.2.2.2.2.2.2.2.2.2.2.2.2.2.1, y.1.2.2.2.2.2.2.2.2.2.2.2.2.2.2.2.2.1, y.1.2.2.2.2.2.2.2.2.2.2.2.2.2.2.2.2.2.1, y.1.2.2.2.2.2.2.2.2.2.2.2.2.2.2.2.2.2.2.1) },
      { lbl := 30, live := [(5, none), (6, none)], ms := [], vs := [.c (.own 0), .c (.int .i64)], bs := [.arr T66 .un], f := fun k x y => spec_l13Parts.l30 k x.2.1 y.1 },
      { lbl := 36, live := [(5, none), (6, none), (7, none)], ms := [], vs := [.c (.own 0), .c (.int .i64), .c (.int .i64)], bs := [.arr T66 .un], f := fun k x y => spec_l13Parts.l36 k x.2.1 x.2.2.1 y.1 }] { c := fun _ => none, cc := [], ms := [], tn := [], sh := false, fm := [] } rfl 5000 ⟨⟨fun _ _ => rfl, fun k x y => by kernel_rfl⟩, ⟨⟨fun _ _ => rfl, fun k x y => by kernel_rfl⟩, ⟨⟨fun _ _ => rfl, fun k x y => by kernel_rfl⟩, ⟨⟨fun _ _ => rfl, fun k x y => by kernel_rfl⟩, trivial⟩⟩⟩⟩ (fun k x y => by kernel_rfl)

/-! ### loop.example/g00076/spec.ChanOk: function 141 -/
def spec_ChanOk.f (a0 : S77) : Option (Bool) := (spec_l01In.f a0.f1 0 5).bind fun t1 => (if t1 = true then ((spec_l01In.f a0.f2 0 5).bind fun t2 => (if t2 = true then (if a0.f1 = a0.f2 then (some false) else (if a0.f0 = 0 then (if a0.f3 = 0 then (some true) else (if a0.f0 = 1 then ((spec_l01In.f a0.f3 1 8).bind fun t3 => (some t3)) else (some false))) else (if a0.f0 = 1 then ((spec_l01In.f a0.f3 1 8).bind fun t4 => (some t4)) else (some false)))) else (some false))) else (some false))
def spec_ChanOk.c : FnD := { f := 141, sh := false, ps := [.agg T77], pb := [], vc := .c (.bool), bs := [], R := Bool, fn := fun _ x y => spec_ChanOk.f x.1, out := fun y => (y, ()), inn := fun d => d.1, inv := fun _ => rfl }
theorem spec_ChanOk.ok : spec_ChanOk.c.OK Tryz.prog :=
  FnD.of spec_ChanOk.c mix tok (fn := Tryz.f141) Tryz.func141 (by kernel_rfl) (fun _ _ => by kernel_rfl) (by kernel_rfl) (by kernel_rfl) [spec_l01In.c] ⟨spec_l01In.ok, trivial⟩
    [] { c := fun _ => none, cc := [], ms := [], tn := [], sh := false, fm := [] } rfl 5000 trivial (fun k x y => by kernel_rfl)

/-! ### loop.example/g00076/spec.WorstPad: function 114 -/
def spec_WorstPad.l10 : Nat → (List S77) → Int → Int → S27 → Option (Int)
  | 0, _, _, _, _ => none
  | k + 1, x2, x7, x8, y0 => if x8 < (x2.length : Int) then (if 0 ≤ x8 then (if x8 < (x2.length : Int) then ((spec_ChanOk.f (rd_T77 x2 x8)).bind fun t3 => (if t3 = true then (if 0 ≤ x8 then (if x8 < (x2.length : Int) then (if (rd_T77 x2 x8).f0 = 0 then (spec_WorstPad.l10 k x2 (wrap64 (x7 + y0.f0)) (wrap64 (x8 + 1)) y0) else (if 0 ≤ x8 then (if x8 < (x2.length : Int) then (spec_WorstPad.l10 k x2 (wrap64 (x7 + (wrap64 (y0.f0 * ((rd_T77 x2 x8).f3))))) (wrap64 (x8 + 1)) y0) else none) else none)) else none) else none) else (some (-1)))) else none) else none) else (some x7)
def spec_WorstPad.f (k : Nat) (a0 : S27) (a1 : S25) (a2 : List S77) : Option (Int) := (spec_CostsOk.f a0).bind fun t1 => (if t1 = true then ((spec_ShapeOk.f a1).bind fun t2 => (if t2 = true then (if (a2.length : Int) > 8 then (some (-1)) else (spec_WorstPad.l10 k a2 (wrap64 ((wrap64 (16 * a0.f0)) + (wrap64 ((wrap64 (a1.f0 * a1.f1)) * a0.f6)))) 0 a0)) else (some (-1)))) else (some (-1)))
def spec_WorstPad.c : FnD := { f := 114, sh := false, ps := [.agg T27, .agg T25, .c (.sl T77)], pb := [], vc := .c (.int .i64), bs := [], R := Int, fn := fun k x y => spec_WorstPad.f k x.1 x.2.1 x.2.2.1, out := fun y => (y, ()), inn := fun d => d.1, inv := fun _ => rfl }
theorem spec_WorstPad.ok : spec_WorstPad.c.OK Tryz.prog :=
  FnD.of spec_WorstPad.c mix tok (fn := Tryz.f114) Tryz.func114 (by kernel_rfl) (fun _ _ => by kernel_rfl) (by kernel_rfl) (by kernel_rfl) [spec_CostsOk.c, spec_ShapeOk.c, spec_ChanOk.c] ⟨spec_CostsOk.ok, ⟨spec_ShapeOk.ok, ⟨spec_ChanOk.ok, trivial⟩⟩⟩
    [{ lbl := 10, live := [(2, none), (3, none), (7, none), (8, none)], ms := [], vs := [.c (.sl false T77), .c (.ptr 0 0), .c (.int .i64), .c (.int .i64)], bs := [.cells 27 [.int .i64, .int .i64, .int .i64, .int .i64, .int .i64, .int .i64, .int .i64]], f := fun k x y => spec_WorstPad.l10 k x.1 x.2.2.1 x.2.2.2.1 (y.1.1, y.1.2.1, y.1.2.2.1, y.1.2.2.2.1, y.1.2.2.2.2.1, y.1.2.2.2.2.2.1, y.1.2.2.2.2.2.2.1) }] { c := fun _ => none, cc := [], ms := [], tn := [], sh := false, fm := [] } rfl 5000 ⟨⟨fun _ _ => rfl, fun k x y => by kernel_rfl⟩, trivial⟩ (fun k x y => by kernel_rfl)

/-! ### loop.example/g00076/spec.l13Chans: function 89 -/
mutual
def spec_l13Chans.l8 : Nat → Int → S33 → Option (Bool)
  | 0, _, _ => none
  | k + 1, x3, y0 => if x3 < (y0.f8.length : Int) then (if 0 ≤ x3 then (if x3 < (y0.f8.length : Int) then ((spec_l01In.f (rd y0.f8 x3) 0 (wrap64 ((y0.f7.length : Int) - 1))).bind fun t1 => (if t1 = true then (spec_l13Chans.l8 k (wrap64 (x3 + 1)) y0) else (some false))) else none) else none) else (spec_l13Chans.l18 k 0 y0)
def spec_l13Chans.l18 : Nat → Int → S33 → Option (Bool)
  | 0, _, _ => none
  | k + 1, x4, y0 => if x4 < (y0.f9.length : Int) then (if 0 ≤ x4 then (if x4 < (y0.f9.length : Int) then ((spec_ChanOk.f (rd_T77 y0.f9 x4)).bind fun t2 => (if t2 = true then (if 0 ≤ x4 then (if x4 < (y0.f9.length : Int) then (if (rd_T77 y0.f9 x4).f1 ≥ (y0.f7.length : Int) then (some false) else (if 0 ≤ x4 then (if x4 < (y0.f9.length : Int) then (if (rd_T77 y0.f9 x4).f2 ≥ (y0.f7.length : Int) then (some false) else (spec_l13Chans.l18 k (wrap64 (x4 + 1)) y0)) else none) else none)) else none) else none) else (some false))) else none) else none) else ((spec_WorstPad.f k y0.f3 y0.f1 y0.f9).bind fun t3 => (some (decide (y0.f4 ≥ t3))))
end
def spec_l13Chans.f (k : Nat) (a0 : S33) : Option (Bool) := if (a0.f8.length : Int) > 8 then (some false) else (if (a0.f9.length : Int) > 8 then (some false) else (spec_l13Chans.l8 k 0 a0))
def spec_l13Chans.c : FnD := { f := 89, sh := false, ps := [.agg T33], pb := [], vc := .c (.bool), bs := [], R := Bool, fn := fun k x y => spec_l13Chans.f k x.1, out := fun y => (y, ()), inn := fun d => d.1, inv := fun _ => rfl }
theorem spec_l13Chans.ok : spec_l13Chans.c.OK Tryz.prog :=
  FnD.of spec_l13Chans.c mix tok (fn := Tryz.f89) Tryz.func89 (by kernel_rfl) (fun _ _ => by kernel_rfl) (by kernel_rfl) (by kernel_rfl) [spec_l01In.c, spec_ChanOk.c, spec_WorstPad.c] ⟨spec_l01In.ok, ⟨spec_ChanOk.ok, ⟨spec_WorstPad.ok, trivial⟩⟩⟩
    [{ lbl := 8, live := [(1, none), (3, none)], ms := [], vs := [.c (.ptr 0 0), .c (.int .i64)], bs := [.cells 33 [.int .i64, .int .i64, .int .i64, .int .i64, .int .i64, .int .i64, .int .i64, .int .i64, .int .i64, .int .i64, .int .i64, .int .i64, .int .i64, .int .i64, .int .i64, .sl false T71, .sl false (.int .i64), .sl false T77, .sl false T182]], f := fun k x y => spec_l13Chans.l8 k x.2.1 (y.1.1, (y.1.2.1, y.1.2.2.1, y.1.2.2.2.1), y.1.2.2.2.2.1, (y.1.2.2.2.2.2.1, y.1.2.2.2.2.2.2.1, y.1.2.2.2.2.2.2.2.1, y.1.2.2.2.2.2.2.2.2.1, y.1.2.2.2.2.2.2.2.2.2.1, y.1.2.2.2.2.2.2.2.2.2.2.1, y.1.2.2.2.2.2.2.2.2.2.2.2.1), y.1.2.2.2.2.2.2.2.2.2.2.2.2.1, y.1.2.2.2.2.2.2.2.2.2.2.2.2.2.1, y.1.2.2.2.2.2.2.2.2.2.2.2.2.2.2.1, y.1.2.2.2.2.2.2.2.2.2.2.2.2.2.2.2.1, y.1.2.2.2.2.2.2.2.2.2.2.2.2.2.2.2.2.1, y.1.2.2.2.2.2.2.2.2.2.2.2.2.2.2.2.2.2.1, y.1.2.2.2.2.2.2.2.2.2.2.2.2.2.2.2.2.2.2.1) },
      { lbl := 18, live := [(1, none), (4, none)], ms := [], vs := [.c (.ptr 0 0), .c (.int .i64)], bs := [.cells 33 [.int .i64, .int .i64, .int .i64, .int .i64, .int .i64, .int .i64, .int .i64, .int .i64, .int .i64, .int .i64, .int .i64, .int .i64, .int .i64, .int .i64, .int .i64, .sl false T71, .sl false (.int .i64), .sl false T77, .sl false T182]], f := fun k x y => spec_l13Chans.l18 k x.2.1 (y.1.1, (y.1.2.1, y.1.2.2.1, y.1.2.2.2.1), y.1.2.2.2.2.1, (y.1.2.2.2.2.2.1, y.1.2.2.2.2.2.2.1, y.1.2.2.2.2.2.2.2.1, y.1.2.2.2.2.2.2.2.2.1, y.1.2.2.2.2.2.2.2.2.2.1, y.1.2.2.2.2.2.2.2.2.2.2.1, y.1.2.2.2.2.2.2.2.2.2.2.2.1), y.1.2.2.2.2.2.2.2.2.2.2.2.2.1, y.1.2.2.2.2.2.2.2.2.2.2.2.2.2.1, y.1.2.2.2.2.2.2.2.2.2.2.2.2.2.2.1, y.1.2.2.2.2.2.2.2.2.2.2.2.2.2.2.2.1, y.1.2.2.2.2.2.2.2.2.2.2.2.2.2.2.2.2.1, y.1.2.2.2.2.2.2.2.2.2.2.2.2.2.2.2.2.2.1, y.1.2.2.2.2.2.2.2.2.2.2.2.2.2.2.2.2.2.2.1) }] { c := fun _ => none, cc := [], ms := [], tn := [], sh := false, fm := [] } rfl 5000 ⟨⟨fun _ _ => rfl, fun k x y => by kernel_rfl⟩, ⟨⟨fun _ _ => rfl, fun k x y => by kernel_rfl⟩, trivial⟩⟩ (fun k x y => by kernel_rfl)

end
end Go.Proofs.YtcjfheidmlcbfaaGreatDoor.PPa
