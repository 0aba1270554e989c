/- Go functions as Lean functions, each with its contract. -/
import Derived.Test.YtcjfheidmlcbfaaGreatDoorSQSrx0
set_option linter.unusedVariables false
set_option maxRecDepth 100000
namespace Go.Proofs.YtcjfheidmlcbfaaGreatDoor.PSr
open Go Go.Proofs Go.RowKit Go.Proofs.YtcjfheidmlcbfaaGreatDoor.V
noncomputable section
/-! ### loop.example/g00076/laws.big: function 7 -/
def laws_big.f (a0 : List Int) : Option (Bool) := some (decide ((lenZ a0) > 1048576))
def laws_big.c : FnD := { f := 7, sh := false, ps := [.c (.sl (.int .u8))], pb := [], vc := .c (.bool), bs := [], R := Bool, fn := fun _ x y => laws_big.f x.1, out := fun y => (y, ()), inn := fun d => d.1, inv := fun _ => rfl }
theorem laws_big.ok : laws_big.c.OK Tryz.prog :=
  FnD.of laws_big.c mix tok (fn := Tryz.f7) Tryz.func7 (by kernel_rfl) (fun _ _ => by kernel_rfl) (by kernel_rfl) (by kernel_rfl) [] trivial
    [] { c := fun _ => none, cc := [], ms := [], tn := [], sh := false, fm := [] } rfl 5000 trivial (fun k x y => by kernel_rfl)

/-! ### loop.example/g00076/spec.l01New: function 29 -/
def spec_l01New.l6 : Nat → (List Int) → Int → Int → Option (S162)
  | 0, _, _, _ => none
  | k + 1, x0, x3, x4 => if x4 < (lenZ x0) then (if x4 < 4000 then (if 0 ≤ x4 then (if x4 < (x0.length : Int) then (spec_l01New.l6 k x0 (bitAnd .i64 (wrap64 ((wrap64 ((wrap64 (x3 * 131)) + (wrap64 ((rd x0 x4))))) + 7)) 1073741823) (wrap64 (x4 + 1))) else none) else none) else (some (⟨x0, 0, x3⟩ : S162))) else (some (⟨x0, 0, x3⟩ : S162))
def spec_l01New.f (k : Nat) (a0 : List Int) : Option (S162) := spec_l01New.l6 k a0 (wrap64 (76076 + (lenZ a0))) 0
def spec_l01New.c : FnD := { f := 29, sh := true, ps := [.c (.sl (.int .u8))], pb := [], vc := .c (.ptr 0 0), bs := [.cells 162 [.sl false (.int .u8), .int .i64, .int .i64]], R := S162, fn := fun k x y => spec_l01New.f k x.1, out := fun y => ((), ((y.1, y.2.1, y.2.2, ()), ())), inn := fun d => (d.2.1.1, d.2.1.2.1, d.2.1.2.2.1), inv := fun _ => rfl }
theorem spec_l01New.ok : spec_l01New.c.OK Tryz.prog :=
  FnD.of spec_l01New.c mix tok (fn := Tryz.f29) Tryz.func29 (by kernel_rfl) (fun _ _ => by kernel_rfl) (by kernel_rfl) (by kernel_rfl) [] trivial
    [{ lbl := 6, live := [(0, none), (3, none), (4, none)], ms := [], vs := [.c (.sl false (.int .u8)), .c (.int .i64), .c (.int .i64)], bs := [], f := fun k x y => spec_l01New.l6 k x.1 x.2.1 x.2.2.1 }] { c := fun _ => none, cc := [], ms := [], tn := [], sh := true, fm := [] } rfl 5000 ⟨⟨fun _ _ => rfl, fun k x y => by kernel_rfl⟩, trivial⟩ (fun k x y => by kernel_rfl)

/-! ### loop.example/g00076/spec.l01Byte: function 86 -/
def spec_l01Byte_o1.f (y0 : S162) : Option (Int × S162) := if y0.f1 < (lenZ y0.f0) then (if 0 ≤ y0.f1 then (if y0.f1 < (y0.f0.length : Int) then (some ((bitAnd .i64 (wrap64 ((bitAnd .i64 (bitXor .i64 (shr .i64 (wrap64 ((wrap64 (y0.f2 * 6364136223846793005)) + 1442695040888963407)) 33) (shr .i64 (wrap64 ((wrap64 (y0.f2 * 6364136223846793005)) + 1442695040888963407)) 45)) 255) + (wrap64 ((rd y0.f0 y0.f1))))) 255), (⟨y0.f0, (wrap64 (y0.f1 + 1)), (wrap64 ((wrap64 (y0.f2 * 6364136223846793005)) + 1442695040888963407))⟩ : S162))) else none) else none) else (some ((bitAnd .i64 (bitXor .i64 (shr .i64 (wrap64 ((wrap64 (y0.f2 * 6364136223846793005)) + 1442695040888963407)) 33) (shr .i64 (wrap64 ((wrap64 (y0.f2 * 6364136223846793005)) + 1442695040888963407)) 45)) 255), (⟨y0.f0, y0.f1, (wrap64 ((wrap64 (y0.f2 * 6364136223846793005)) + 1442695040888963407))⟩ : S162)))
def spec_l01Byte_o1.c : FnD := { f := 86, sh := true, ps := [.vc (.c (.ptr 0 0))], pb := [.cells 162 [.sl false (.int .u8), .int .i64, .int .i64]], vc := .c (.int .i64), bs := [.cells 162 [.sl false (.int .u8), .int .i64, .int .i64]], R := Int × S162, fn := fun _ x y => spec_l01Byte_o1.f (y.1.1, y.1.2.1, y.1.2.2.1), out := fun y => (y.1, ((y.2.1, y.2.2.1, y.2.2.2, ()), ())), inn := fun d => (d.1, (d.2.1.1, d.2.1.2.1, d.2.1.2.2.1)), inv := fun _ => rfl }
theorem spec_l01Byte_o1.ok : spec_l01Byte_o1.c.OK Tryz.prog :=
  FnD.of spec_l01Byte_o1.c mix tok (fn := Tryz.f86) Tryz.func86 (by kernel_rfl) (fun _ _ => by kernel_rfl) (by kernel_rfl) (by kernel_rfl) [] trivial
    [] { c := fun _ => none, cc := [], ms := [], tn := [], sh := true, fm := [] } rfl 5000 trivial (fun k x y => by kernel_rfl)

/-! ### loop.example/g00076/spec.l01Below: function 31 -/
def spec_l01Below_o1.fb (a1 : Int) (y0 : S162) : Option (Int × S162) := if a1 ≤ 0 then (some (0, y0)) else (if a1 ≤ 256 then ((spec_l01Byte_o1.f y0).bind fun t1 => (if a1 = 0 then none else (some ((Int.tmod t1.1 a1), t1.2)))) else ((spec_l01Byte_o1.f y0).bind fun t2 => ((spec_l01Byte_o1.f t2.2).bind fun t3 => ((spec_l01Byte_o1.f t3.2).bind fun t4 => ((spec_l01Byte_o1.f t4.2).bind fun t5 => (if a1 = 0 then none else (some ((Int.tmod (wrap64 ((wrap64 ((wrap64 ((wrap64 (t2.1 * 16777216)) + (wrap64 (t3.1 * 65536)))) + (wrap64 (t4.1 * 256)))) + t5.1)) a1), t5.2))))))))
def spec_l01Below_o1.fs (a1 : Int) (y0 : S162) : Option (Int × S162) := Classical.choose (⟨spec_l01Below_o1.fb a1 y0, rfl⟩ : ∃ g : Option (Int × S162), g = spec_l01Below_o1.fb a1 y0)
theorem spec_l01Below_o1.fs_eq (a1 : Int) (y0 : S162) : spec_l01Below_o1.fs a1 y0 = spec_l01Below_o1.fb a1 y0 := Classical.choose_spec (⟨spec_l01Below_o1.fb a1 y0, rfl⟩ : ∃ g : Option (Int × S162), g = spec_l01Below_o1.fb a1 y0)
def spec_l01Below_o1.f (a1 : Int) (y0 : S162) : Option (Int × S162) := spec_l01Below_o1.fs a1 y0
def spec_l01Below_o1.c : FnD := { f := 31, sh := true, ps := [.vc (.c (.ptr 0 0)), .c (.int .i64)], pb := [.cells 162 [.sl false (.int .u8), .int .i64, .int .i64]], vc := .c (.int .i64), bs := [.cells 162 [.sl false (.int .u8), .int .i64, .int .i64]], R := Int × S162, fn := fun _ x y => spec_l01Below_o1.f x.2.1 (y.1.1, y.1.2.1, y.1.2.2.1), out := fun y => (y.1, ((y.2.1, y.2.2.1, y.2.2.2, ()), ())), inn := fun d => (d.1, (d.2.1.1, d.2.1.2.1, d.2.1.2.2.1)), inv := fun _ => rfl }
theorem spec_l01Below_o1.ok : spec_l01Below_o1.c.OK Tryz.prog :=
  FnD.of spec_l01Below_o1.c mix tok (fn := Tryz.f31) Tryz.func31 (by kernel_rfl) (fun _ _ => by kernel_rfl) (by kernel_rfl) (by kernel_rfl) [spec_l01Byte_o1.c] ⟨spec_l01Byte_o1.ok, trivial⟩
    [] { c := fun _ => none, cc := [], ms := [], tn := [], sh := true, fm := [] } rfl 5000 trivial (fun k x y => Eq.trans (b := spec_l01Below_o1.fb x.2.1 (y.1.1, y.1.2.1, y.1.2.2.1)) (by kernel_rfl) (spec_l01Below_o1.fs_eq x.2.1 (y.1.1, y.1.2.1, y.1.2.2.1)).symm)

/-! ### loop.example/g00076/spec.l01PickInt: function 85 -/
def spec_l01PickInt_o1.f (y0 : S162) (h1 : List Int) : Option (Int × S162 × (List Int)) := (spec_l01Below_o1.f (h1.length : Int) y0).bind fun t1 => (if 0 ≤ t1.1 then (if t1.1 < (h1.length : Int) then (some ((rd h1 t1.1), t1.2, h1)) else none) else none)
def spec_l01PickInt_o1.c : FnD := { f := 85, sh := true, ps := [.vc (.c (.ptr 0 0)), .vc (.c (.own 1))], pb := [.cells 162 [.sl false (.int .u8), .int .i64, .int .i64], .arr (.int .i64) .un], vc := .c (.int .i64), bs := [.cells 162 [.sl false (.int .u8), .int .i64, .int .i64], .arr (.int .i64) .un], R := Int × S162 × (List Int), fn := fun _ x y => spec_l01PickInt_o1.f (y.1.1, y.1.2.1, y.1.2.2.1) y.2.1, out := fun y => (y.1, ((y.2.1.1, y.2.1.2.1, y.2.1.2.2, ()), y.2.2, ())), inn := fun d => (d.1, (d.2.1.1, d.2.1.2.1, d.2.1.2.2.1), d.2.2.1), inv := fun _ => rfl }
theorem spec_l01PickInt_o1.ok : spec_l01PickInt_o1.c.OK Tryz.prog :=
  FnD.of spec_l01PickInt_o1.c mix tok (fn := Tryz.f85) Tryz.func85 (by kernel_rfl) (fun _ _ => by kernel_rfl) (by kernel_rfl) (by kernel_rfl) [spec_l01Below_o1.c] ⟨spec_l01Below_o1.ok, trivial⟩
    [] { c := fun _ => none, cc := [], ms := [], tn := [], sh := true, fm := [] } rfl 5000 trivial (fun k x y => by kernel_rfl)

/-! ### loop.example/g00076/spec.l10Policy: function 111 -/
def spec_l10Policy_o1.f (y0 : S162) : Option (S68 × S162) := (spec_l01Below_o1.f 3 y0).bind fun t1 => (if t1.1 = 1 then ((spec_l01PickInt_o1.f t1.2 ([0, 1, 2, 3, 100] : List Int)).bind fun t2 => (some ((⟨t1.1, t2.1⟩ : S68), t2.2.1))) else (some ((⟨t1.1, 0⟩ : S68), t1.2)))
def spec_l10Policy_o1.c : FnD := { f := 111, sh := true, ps := [.vc (.c (.ptr 0 0))], pb := [.cells 162 [.sl false (.int .u8), .int .i64, .int .i64]], vc := .agg [.int .i64, .int .i64], bs := [.cells 162 [.sl false (.int .u8), .int .i64, .int .i64]], R := S68 × S162, fn := fun _ x y => spec_l10Policy_o1.f (y.1.1, y.1.2.1, y.1.2.2.1), out := fun y => ((y.1.1, y.1.2, ()), ((y.2.1, y.2.2.1, y.2.2.2, ()), ())), inn := fun d => ((d.1.1, d.1.2.1), (d.2.1.1, d.2.1.2.1, d.2.1.2.2.1)), inv := fun _ => rfl }
theorem spec_l10Policy_o1.ok : spec_l10Policy_o1.c.OK Tryz.prog :=
  FnD.of spec_l10Policy_o1.c mix tok (fn := Tryz.f111) Tryz.func111 (by kernel_rfl) (fun _ _ => by kernel_rfl) (by kernel_rfl) (by kernel_rfl) [spec_l01Below_o1.c, spec_l01PickInt_o1.c] ⟨spec_l01Below_o1.ok, ⟨spec_l01PickInt_o1.ok, trivial⟩⟩
    [] { c := fun _ => none, cc := [], ms := [], tn := [], sh := true, fm := [] } rfl 5000 trivial (fun k x y => by kernel_rfl)

/-! ### loop.example/g00076/spec.l01Once: function 30 -/
def spec_l01Once_o1.f (a1 : Int) (y0 : S162) : Option (Bool × S162) := (spec_l01Below_o1.f a1 y0).bind fun t1 => (some ((decide (t1.1 = 0)), t1.2))
def spec_l01Once_o1.c : FnD := { f := 30, sh := true, ps := [.vc (.c (.ptr 0 0)), .c (.int .i64)], pb := [.cells 162 [.sl false (.int .u8), .int .i64, .int .i64]], vc := .c (.bool), bs := [.cells 162 [.sl false (.int .u8), .int .i64, .int .i64]], R := Bool × S162, fn := fun _ x y => spec_l01Once_o1.f x.2.1 (y.1.1, y.1.2.1, y.1.2.2.1), out := fun y => (y.1, ((y.2.1, y.2.2.1, y.2.2.2, ()), ())), inn := fun d => (d.1, (d.2.1.1, d.2.1.2.1, d.2.1.2.2.1)), inv := fun _ => rfl }
theorem spec_l01Once_o1.ok : spec_l01Once_o1.c.OK Tryz.prog :=
  FnD.of spec_l01Once_o1.c mix tok (fn := Tryz.f30) Tryz.func30 (by kernel_rfl) (fun _ _ => by kernel_rfl) (by kernel_rfl) (by kernel_rfl) [spec_l01Below_o1.c] ⟨spec_l01Below_o1.ok, trivial⟩
    [] { c := fun _ => none, cc := [], ms := [], tn := [], sh := true, fm := [] } rfl 5000 trivial (fun k x y => by kernel_rfl)

/-! ### loop.example/g00076/spec.l11Row: function 112 -/
def spec_l11Row_o1.l7 : Nat → S162 → S77 → S77 → Option (S77 × S162)
  | 0, _, _, _ => none
  | k + 1, y0, y1, y2 => if y2.f0 = 1 then ((spec_l01Below_o1.f 4 y0).bind fun t4 => ((spec_l01Once_o1.f 6 t4.2).bind fun t5 => (if t5.1 = true then (some ((⟨y2.f0, y2.f1, y2.f2, 8⟩ : S77), t5.2)) else (some ((⟨y2.f0, y2.f1, y2.f2, (wrap64 (1 + t4.1))⟩ : S77), t5.2))))) else (some (y2, y0))
def spec_l11Row_o1.f (k : Nat) (a1 : Int) (y0 : S162) : Option (S77 × S162) := (spec_l01Below_o1.f 2 y0).bind fun t1 => ((spec_l01Below_o1.f a1 t1.2).bind fun t2 => (sameO ((spec_l01Below_o1.f (wrap64 (a1 - 1)) t2.2).bind fun t3 => (if a1 = 0 then none else (spec_l11Row_o1.l7 k t3.2 (⟨0, 0, 0, 0⟩ : S77) (⟨t1.1, t2.1, (Int.tmod (wrap64 ((wrap64 (t2.1 + 1)) + t3.1)) a1), 0⟩ : S77)))) ((spec_l01Below_o1.f (wrap64 (a1 - 1)) t2.2).bind fun t3 => (if a1 = 0 then none else (spec_l11Row_o1.l7 k t3.2 (⟨0, 0, 0, 0⟩ : S77) (⟨t1.1, t2.1, (Int.tmod (wrap64 ((wrap64 (t2.1 + 1)) + t3.1)) a1), 0⟩ : S77))))))
def spec_l11Row_o1.c : FnD := { f := 112, sh := true, ps := [.vc (.c (.ptr 0 0)), .c (.int .i64)], pb := [.cells 162 [.sl false (.int .u8), .int .i64, .int .i64]], vc := .agg [.int .i64, .int .i64, .int .i64, .int .i64], bs := [.cells 162 [.sl false (.int .u8), .int .i64, .int .i64]], R := S77 × S162, fn := fun k x y => spec_l11Row_o1.f k x.2.1 (y.1.1, y.1.2.1, y.1.2.2.1), out := fun y => ((y.1.1, y.1.2.1, y.1.2.2.1, y.1.2.2.2, ()), ((y.2.1, y.2.2.1, y.2.2.2, ()), ())), inn := fun d => ((d.1.1, d.1.2.1, d.1.2.2.1, d.1.2.2.2.1), (d.2.1.1, d.2.1.2.1, d.2.1.2.2.1)), inv := fun _ => rfl }
theorem spec_l11Row_o1.ok : spec_l11Row_o1.c.OK Tryz.prog :=
  FnD.of spec_l11Row_o1.c mix tok (fn := Tryz.f112) Tryz.func112 (by kernel_rfl) (fun _ _ => by kernel_rfl) (by kernel_rfl) (by kernel_rfl) [spec_l01Below_o1.c, spec_l01Once_o1.c] ⟨spec_l01Below_o1.ok, ⟨spec_l01Once_o1.ok, trivial⟩⟩
    [{ lbl := 7, live := [(0, none), (4, none), (5, none)], ms := [], vs := [.c (.ptr 0 0), .c (.ptr 1 0), .c (.ptr 2 0)], bs := [.cells 162 [.sl false (.int .u8), .int .i64, .int .i64], .cells 77 [.int .i64, .int .i64, .int .i64, .int .i64], .cells 77 [.int .i64, .int .i64, .int .i64, .int .i64]], f := fun k x y => spec_l11Row_o1.l7 k (y.1.1, y.1.2.1, y.1.2.2.1) (y.2.1.1, y.2.1.2.1, y.2.1.2.2.1, y.2.1.2.2.2.1) (y.2.2.1.1, y.2.2.1.2.1, y.2.2.1.2.2.1, y.2.2.1.2.2.2.1) }] { c := fun _ => none, cc := [], ms := [], tn := [], sh := true, fm := [] } rfl 5000 ⟨⟨fun _ _ => rfl, fun k x y => by kernel_rfl⟩, trivial⟩ (fun k x y => by kernel_rfl)

/-! ### loop.example/g00076/spec.l01In: function 33 -/
def spec_l01In.f (a0 : Int) (a1 : Int) (a2 : Int) : Option (Bool) := if a0 ≥ a1 then (some (decide (a0 ≤ a2))) else (some false)
def spec_l01In.c : FnD := { f := 33, sh := false, ps := [.c (.int .i64), .c (.int .i64), .c (.int .i64)], pb := [], vc := .c (.bool), bs := [], R := Bool, fn := fun _ x y => spec_l01In.f x.1 x.2.1 x.2.2.1, out := fun y => (y, ()), inn := fun d => d.1, inv := fun _ => rfl }
theorem spec_l01In.ok : spec_l01In.c.OK Tryz.prog :=
  FnD.of spec_l01In.c mix tok (fn := Tryz.f33) Tryz.func33 (by kernel_rfl) (fun _ _ => by kernel_rfl) (by kernel_rfl) (by kernel_rfl) [] trivial
    [] { c := fun _ => none, cc := [], ms := [], tn := [], sh := false, fm := [] } rfl 5000 trivial (fun k x y => by kernel_rfl)

/-! ### loop.example/g00076/spec.CostsOk: function 138 -/
def spec_CostsOk.f (a0 : S27) : Option (Bool) := (spec_l01In.f a0.f0 1 20).bind fun t1 => (if t1 = true then ((spec_l01In.f a0.f1 0 50).bind fun t2 => (if t2 = true then ((spec_l01In.f a0.f2 0 50).bind fun t3 => (if t3 = true then ((spec_l01In.f a0.f3 0 50).bind fun t4 => (if t4 = true then ((spec_l01In.f a0.f4 0 50).bind fun t5 => (if t5 = true then ((spec_l01In.f a0.f5 0 50).bind fun t6 => (if t6 = true then ((spec_l01In.f a0.f6 0 50).bind fun t7 => (some t7)) else (some false))) else (some false))) else (some false))) else (some false))) else (some false))) else (some false))
def spec_CostsOk.c : FnD := { f := 138, sh := false, ps := [.agg T27], pb := [], vc := .c (.bool), bs := [], R := Bool, fn := fun _ x y => spec_CostsOk.f x.1, out := fun y => (y, ()), inn := fun d => d.1, inv := fun _ => rfl }
theorem spec_CostsOk.ok : spec_CostsOk.c.OK Tryz.prog :=
  FnD.of spec_CostsOk.c mix tok (fn := Tryz.f138) Tryz.func138 (by kernel_rfl) (fun _ _ => by kernel_rfl) (by kernel_rfl) (by kernel_rfl) [spec_l01In.c] ⟨spec_l01In.ok, trivial⟩
    [] { c := fun _ => none, cc := [], ms := [], tn := [], sh := false, fm := [] } rfl 5000 trivial (fun k x y => by kernel_rfl)

/-! ### loop.example/g00076/spec.l02Forms: function 219 -/
def spec_l02Forms.f : Option ((List Int)) := some ([0, 7, 7, 7, 7, 7, 7, 7, 7, 7, 7, 7, 7, 11, 9, 11, 11, 11, 11, 11, 11, 11, 9, 10, 1, 11, 11, 11, 9, 9, 0, 0, 8] : List Int)
def spec_l02Forms.c : FnD := { f := 219, sh := false, ps := [], pb := [], vc := .c (.own 0), bs := [.arr (.int .i64) .un], R := (List Int), fn := fun _ x y => spec_l02Forms.f, out := fun y => ((), (y, ())), inn := fun d => d.2.1, inv := fun _ => rfl }
theorem spec_l02Forms.ok : spec_l02Forms.c.OK Tryz.prog :=
  FnD.of spec_l02Forms.c mix tok (fn := Tryz.f219) Tryz.func219 (by kernel_rfl) (fun _ _ => by kernel_rfl) (by kernel_rfl) (by kernel_rfl) [] trivial
    [] { c := fun _ => none, cc := [], ms := [], tn := [], sh := false, fm := [] } rfl 5000 trivial (fun k x y => by kernel_rfl)

/-! ### loop.example/g00076/spec.FormOf: function 190 -/
def spec_FormOf.f (a0 : Int) : Option (Int) := (spec_l01In.f a0 0 32).bind fun t1 => (if t1 = true then ((spec_l02Forms.f).bind fun t2 => (if 0 ≤ a0 then (if a0 < (t2.length : Int) then (some (rd t2 a0)) else none) else none)) else (some (-1)))
def spec_FormOf.c : FnD := { f := 190, sh := false, ps := [.c (.int .i64)], pb := [], vc := .c (.int .i64), bs := [], R := Int, fn := fun _ x y => spec_FormOf.f x.1, out := fun y => (y, ()), inn := fun d => d.1, inv := fun _ => rfl }
theorem spec_FormOf.ok : spec_FormOf.c.OK Tryz.prog :=
  FnD.of spec_FormOf.c mix tok (fn := Tryz.f190) Tryz.func190 (by kernel_rfl) (fun _ _ => by kernel_rfl) (by kernel_rfl) (by kernel_rfl) [spec_l01In.c, spec_l02Forms.c] ⟨spec_l01In.ok, ⟨spec_l02Forms.ok, trivial⟩⟩
    [] { c := fun _ => none, cc := [], ms := [], tn := [], sh := false, fm := [] } rfl 5000 trivial (fun k x y => by kernel_rfl)

/-! ### loop.example/g00076/spec.OpCost: function 157 -/
def spec_OpCost.f (a0 : S27) (a1 : Int) : Option (Int) := (spec_CostsOk.f a0).bind fun t1 => (if t1 = true then ((spec_FormOf.f a1).bind fun t2 => (if t2 < 0 then (some (-1)) else (if a1 = 9 then (some (wrap64 (a0.f0 + a0.f1))) else (if a1 = 10 then (some (wrap64 (a0.f0 + a0.f1))) else ((spec_l01In.f a1 15 18).bind fun t3 => (if t3 = true then (some (wrap64 (a0.f0 + a0.f2))) else (if a1 ≥ 25 then (some (wrap64 (a0.f0 + a0.f5))) else (some a0.f0)))))))) else (some (-1)))
def spec_OpCost.c : FnD := { f := 157, sh := false, ps := [.agg T27, .c (.int .i64)], pb := [], vc := .c (.int .i64), bs := [], R := Int, fn := fun _ x y => spec_OpCost.f x.1 x.2.1, out := fun y => (y, ()), inn := fun d => d.1, inv := fun _ => rfl }
theorem spec_OpCost.ok : spec_OpCost.c.OK Tryz.prog :=
  FnD.of spec_OpCost.c mix tok (fn := Tryz.f157) Tryz.func157 (by kernel_rfl) (fun _ _ => by kernel_rfl) (by kernel_rfl) (by kernel_rfl) [spec_CostsOk.c, spec_FormOf.c, spec_l01In.c] ⟨spec_CostsOk.ok, ⟨spec_FormOf.ok, ⟨spec_l01In.ok, trivial⟩⟩⟩
    [] { c := fun _ => none, cc := [], ms := [], tn := [], sh := false, fm := [] } rfl 5000 trivial (fun k x y => by kernel_rfl)

/-! ### loop.example/g00076/spec.AccessCost: function 191 -/
def spec_AccessCost.f (a0 : S27) (a1 : S233) : Option (Int) := (spec_CostsOk.f a0).bind fun t1 => (if t1 = true then (if a1.f0 = true then (if a1.f1 = true then (if a1.f2 = true then (some (wrap64 (0 + a0.f6))) else (some 0)) else (if a1.f2 = true then (some (wrap64 ((wrap64 (0 + a0.f4)) + a0.f6))) else (some (wrap64 (0 + a0.f4))))) else (if a1.f1 = true then (if a1.f2 = true then (some (wrap64 ((wrap64 (0 + a0.f3)) + a0.f6))) else (some (wrap64 (0 + a0.f3)))) else (if a1.f2 = true then (some (wrap64 ((wrap64 ((wrap64 (0 + a0.f3)) + a0.f4)) + a0.f6))) else (some (wrap64 ((wrap64 (0 + a0.f3)) + a0.f4)))))) else (some (-1)))
def spec_AccessCost.c : FnD := { f := 191, sh := false, ps := [.agg T27, .agg T233], pb := [], vc := .c (.int .i64), bs := [], R := Int, fn := fun _ x y => spec_AccessCost.f x.1 x.2.1, out := fun y => (y, ()), inn := fun d => d.1, inv := fun _ => rfl }
theorem spec_AccessCost.ok : spec_AccessCost.c.OK Tryz.prog :=
  FnD.of spec_AccessCost.c mix tok (fn := Tryz.f191) Tryz.func191 (by kernel_rfl) (fun _ _ => by kernel_rfl) (by kernel_rfl) (by kernel_rfl) [spec_CostsOk.c] ⟨spec_CostsOk.ok, trivial⟩
    [] { c := fun _ => none, cc := [], ms := [], tn := [], sh := false, fm := [] } rfl 5000 trivial (fun k x y => by kernel_rfl)

/-! ### loop.example/g00076/spec.WorstAccess: function 158 -/
def spec_WorstAccess.l6 : Nat → Int → Int → S27 → Option (Int)
  | 0, _, _, _ => none
  | k + 1, x3, x4, y0 => if x4 < 8 then ((spec_AccessCost.f y0 (⟨(decide ((Int.tmod x4 2) = 1)), (decide ((Int.tmod (wrap64 (Int.tdiv x4 2)) 2) = 1)), (decide ((wrap64 (Int.tdiv x4 4)) = 1))⟩ : S233)).bind fun t1 => (if t1 > x3 then (spec_WorstAccess.l6 k t1 (wrap64 (x4 + 1)) y0) else (spec_WorstAccess.l6 k x3 (wrap64 (x4 + 1)) y0))) else (some x3)
def spec_WorstAccess.f (k : Nat) (a0 : S27) : Option (Int) := spec_WorstAccess.l6 k (-1) 0 a0
def spec_WorstAccess.c : FnD := { f := 158, sh := false, ps := [.agg T27], pb := [], vc := .c (.int .i64), bs := [], R := Int, fn := fun k x y => spec_WorstAccess.f k x.1, out := fun y => (y, ()), inn := fun d => d.1, inv := fun _ => rfl }
theorem spec_WorstAccess.ok : spec_WorstAccess.c.OK Tryz.prog :=
  FnD.of spec_WorstAccess.c mix tok (fn := Tryz.f158) Tryz.func158 (by kernel_rfl) (fun _ _ => by kernel_rfl) (by kernel_rfl) (by kernel_rfl) [spec_AccessCost.c] ⟨spec_AccessCost.ok, trivial⟩
    [{ lbl := 6, live := [(1, none), (3, none), (4, none)], ms := [], vs := [.c (.ptr 0 0), .c (.int .i64), .c (.int .i64)], bs := [.cells 27 [.int .i64, .int .i64, .int .i64, .int .i64, .int .i64, .int .i64, .int .i64]], f := fun k x y => spec_WorstAccess.l6 k x.2.1 x.2.2.1 (y.1.1, y.1.2.1, y.1.2.2.1, y.1.2.2.2.1, y.1.2.2.2.2.1, y.1.2.2.2.2.2.1, y.1.2.2.2.2.2.2.1) }] { c := fun _ => none, cc := [], ms := [], tn := [], sh := false, fm := [] } rfl 5000 ⟨⟨fun _ _ => rfl, fun k x y => by kernel_rfl⟩, trivial⟩ (fun k x y => by kernel_rfl)

/-! ### loop.example/g00076/spec.WorstStep: function 113 -/
def spec_WorstStep.l10 : Nat → Int → Int → S27 → Option (Int)
  | 0, _, _, _ => none
  | k + 1, x3, x4, y0 => if x4 < 33 then ((spec_OpCost.f y0 x4).bind fun t2 => (if t2 > x3 then ((spec_OpCost.f y0 x4).bind fun t3 => (spec_WorstStep.l10 k t3 (wrap64 (x4 + 1)) y0)) else (spec_WorstStep.l10 k x3 (wrap64 (x4 + 1)) y0))) else ((spec_WorstAccess.f k y0).bind fun t4 => (some (wrap64 ((wrap64 (x3 + (wrap64 (2 * t4)))) + y0.f5))))
def spec_WorstStep.f (k : Nat) (a0 : S27) : Option (Int) := (spec_CostsOk.f a0).bind fun t1 => (if t1 = true then (spec_WorstStep.l10 k 0 0 a0) else (some (-1)))
def spec_WorstStep.c : FnD := { f := 113, sh := false, ps := [.agg T27], pb := [], vc := .c (.int .i64), bs := [], R := Int, fn := fun k x y => spec_WorstStep.f k x.1, out := fun y => (y, ()), inn := fun d => d.1, inv := fun _ => rfl }
theorem spec_WorstStep.ok : spec_WorstStep.c.OK Tryz.prog :=
  FnD.of spec_WorstStep.c mix tok (fn := Tryz.f113) Tryz.func113 (by kernel_rfl) (fun _ _ => by kernel_rfl) (by kernel_rfl) (by kernel_rfl) [spec_CostsOk.c, spec_OpCost.c, spec_WorstAccess.c] ⟨spec_CostsOk.ok, ⟨spec_OpCost.ok, ⟨spec_WorstAccess.ok, trivial⟩⟩⟩
    [{ lbl := 10, live := [(1, none), (3, none), (4, none)], ms := [], vs := [.c (.ptr 0 0), .c (.int .i64), .c (.int .i64)], bs := [.cells 27 [.int .i64, .int .i64, .int .i64, .int .i64, .int .i64, .int .i64, .int .i64]], f := fun k x y => spec_WorstStep.l10 k x.2.1 x.2.2.1 (y.1.1, y.1.2.1, y.1.2.2.1, y.1.2.2.2.1, y.1.2.2.2.2.1, y.1.2.2.2.2.2.1, y.1.2.2.2.2.2.2.1) }] { c := fun _ => none, cc := [], ms := [], tn := [], sh := false, fm := [] } rfl 5000 ⟨⟨fun _ _ => rfl, fun k x y => by kernel_rfl⟩, trivial⟩ (fun k x y => by kernel_rfl)

/-! ### loop.example/g00076/spec.ShapeOk: function 137 -/
def spec_ShapeOk.f (a0 : S25) : Option (Bool) := if a0.f0 = 1 then (if a0.f2 = 4 then ((spec_l01In.f a0.f1 1 4).bind fun t1 => (some t1)) else (if a0.f2 = 8 then ((spec_l01In.f a0.f1 1 4).bind fun t2 => (some t2)) else (if a0.f2 = 16 then ((spec_l01In.f a0.f1 1 4).bind fun t3 => (some t3)) else (if a0.f2 = 32 then ((spec_l01In.f a0.f1 1 4).bind fun t4 => (some t4)) else (some false))))) else (if a0.f0 = 2 then (if a0.f2 = 4 then ((spec_l01In.f a0.f1 1 4).bind fun t5 => (some t5)) else (if a0.f2 = 8 then ((spec_l01In.f a0.f1 1 4).bind fun t6 => (some t6)) else (if a0.f2 = 16 then ((spec_l01In.f a0.f1 1 4).bind fun t7 => (some t7)) else (if a0.f2 = 32 then ((spec_l01In.f a0.f1 1 4).bind fun t8 => (some t8)) else (some false))))) else (if a0.f0 = 4 then (if a0.f2 = 4 then ((spec_l01In.f a0.f1 1 4).bind fun t9 => (some t9)) else (if a0.f2 = 8 then ((spec_l01In.f a0.f1 1 4).bind fun t10 => (some t10)) else (if a0.f2 = 16 then ((spec_l01In.f a0.f1 1 4).bind fun t11 => (some t11)) else (if a0.f2 = 32 then ((spec_l01In.f a0.f1 1 4).bind fun t12 => (some t12)) else (some false))))) else (if a0.f0 = 8 then (if a0.f2 = 4 then ((spec_l01In.f a0.f1 1 4).bind fun t13 => (some t13)) else (if a0.f2 = 8 then ((spec_l01In.f a0.f1 1 4).bind fun t14 => (some t14)) else (if a0.f2 = 16 then ((spec_l01In.f a0.f1 1 4).bind fun t15 => (some t15)) else (if a0.f2 = 32 then ((spec_l01In.f a0.f1 1 4).bind fun t16 => (some t16)) else (some false))))) else (if a0.f2 = 4 then (if a0.f0 = 16 then ((spec_l01In.f a0.f1 1 4).bind fun t17 => (some t17)) else (some false)) else (if a0.f2 = 8 then (if a0.f0 = 16 then ((spec_l01In.f a0.f1 1 4).bind fun t18 => (some t18)) else (some false)) else (if a0.f2 = 16 then (if a0.f0 = 16 then ((spec_l01In.f a0.f1 1 4).bind fun t19 => (some t19)) else (some false)) else (if a0.f0 = 16 then (if a0.f2 = 32 then ((spec_l01In.f a0.f1 1 4).bind fun t20 => (some t20)) else (some false)) else (some false))))))))
def spec_ShapeOk.c : FnD := { f := 137, sh := false, ps := [.agg T25], pb := [], vc := .c (.bool), bs := [], R := Bool, fn := fun _ x y => spec_ShapeOk.f x.1, out := fun y => (y, ()), inn := fun d => d.1, inv := fun _ => rfl }
theorem spec_ShapeOk.ok : spec_ShapeOk.c.OK Tryz.prog :=
  FnD.of spec_ShapeOk.c mix tok (fn := Tryz.f137) Tryz.func137 (by kernel_rfl) (fun _ _ => by kernel_rfl) (by kernel_rfl) (by kernel_rfl) [spec_l01In.c] ⟨spec_l01In.ok, trivial⟩
    [] { c := fun _ => none, cc := [], ms := [], tn := [], sh := false, fm := [] } rfl 5000 trivial (fun k x y => by kernel_rfl)

/-! ### loop.example/g00076/spec.ChanOk: function 141 -/
def spec_ChanOk.f (a0 : S77) : Option (Bool) := (spec_l01In.f a0.f1 0 5).bind fun t1 => (if t1 = true then ((spec_l01In.f a0.f2 0 5).bind fun t2 => (if t2 = true then (if a0.f1 = a0.f2 then (some false) else (if a0.f0 = 0 then (if a0.f3 = 0 then (some true) else (if a0.f0 = 1 then ((spec_l01In.f a0.f3 1 8).bind fun t3 => (some t3)) else (some false))) else (if a0.f0 = 1 then ((spec_l01In.f a0.f3 1 8).bind fun t4 => (some t4)) else (some false)))) else (some false))) else (some false))
def spec_ChanOk.c : FnD := { f := 141, sh := false, ps := [.agg T77], pb := [], vc := .c (.bool), bs := [], R := Bool, fn := fun _ x y => spec_ChanOk.f x.1, out := fun y => (y, ()), inn := fun d => d.1, inv := fun _ => rfl }
theorem spec_ChanOk.ok : spec_ChanOk.c.OK Tryz.prog :=
  FnD.of spec_ChanOk.c mix tok (fn := Tryz.f141) Tryz.func141 (by kernel_rfl) (fun _ _ => by kernel_rfl) (by kernel_rfl) (by kernel_rfl) [spec_l01In.c] ⟨spec_l01In.ok, trivial⟩
    [] { c := fun _ => none, cc := [], ms := [], tn := [], sh := false, fm := [] } rfl 5000 trivial (fun k x y => by kernel_rfl)

/-! ### loop.example/g00076/spec.WorstPad: function 114 -/
def spec_WorstPad.l10 : Nat → (List S77) → Int → Int → S27 → Option (Int)
  | 0, _, _, _, _ => none
  | k + 1, x2, x7, x8, y0 => if x8 < (x2.length : Int) then (if 0 ≤ x8 then (if x8 < (x2.length : Int) then ((spec_ChanOk.f (rd_T77 x2 x8)).bind fun t3 => (if t3 = true then (if 0 ≤ x8 then (if x8 < (x2.length : Int) then (if (rd_T77 x2 x8).f0 = 0 then (spec_WorstPad.l10 k x2 (wrap64 (x7 + y0.f0)) (wrap64 (x8 + 1)) y0) else (if 0 ≤ x8 then (if x8 < (x2.length : Int) then (spec_WorstPad.l10 k x2 (wrap64 (x7 + (wrap64 (y0.f0 * ((rd_T77 x2 x8).f3))))) (wrap64 (x8 + 1)) y0) else none) else none)) else none) else none) else (some (-1)))) else none) else none) else (some x7)
def spec_WorstPad.f (k : Nat) (a0 : S27) (a1 : S25) (a2 : List S77) : Option (Int) := (spec_CostsOk.f a0).bind fun t1 => (if t1 = true then ((spec_ShapeOk.f a1).bind fun t2 => (if t2 = true then (if (a2.length : Int) > 8 then (some (-1)) else (spec_WorstPad.l10 k a2 (wrap64 ((wrap64 (16 * a0.f0)) + (wrap64 ((wrap64 (a1.f0 * a1.f1)) * a0.f6)))) 0 a0)) else (some (-1)))) else (some (-1)))
def spec_WorstPad.c : FnD := { f := 114, sh := false, ps := [.agg T27, .agg T25, .c (.sl T77)], pb := [], vc := .c (.int .i64), bs := [], R := Int, fn := fun k x y => spec_WorstPad.f k x.1 x.2.1 x.2.2.1, out := fun y => (y, ()), inn := fun d => d.1, inv := fun _ => rfl }
theorem spec_WorstPad.ok : spec_WorstPad.c.OK Tryz.prog :=
  FnD.of spec_WorstPad.c mix tok (fn := Tryz.f114) Tryz.func114 (by kernel_rfl) (fun _ _ => by kernel_rfl) (by kernel_rfl) (by kernel_rfl) [spec_CostsOk.c, spec_ShapeOk.c, spec_ChanOk.c] ⟨spec_CostsOk.ok, ⟨spec_ShapeOk.ok, ⟨spec_ChanOk.ok, trivial⟩⟩⟩
    [{ lbl := 10, live := [(2, none), (3, none), (7, none), (8, none)], ms := [], vs := [.c (.sl false T77), .c (.ptr 0 0), .c (.int .i64), .c (.int .i64)], bs := [.cells 27 [.int .i64, .int .i64, .int .i64, .int .i64, .int .i64, .int .i64, .int .i64]], f := fun k x y => spec_WorstPad.l10 k x.1 x.2.2.1 x.2.2.2.1 (y.1.1, y.1.2.1, y.1.2.2.1, y.1.2.2.2.1, y.1.2.2.2.2.1, y.1.2.2.2.2.2.1, y.1.2.2.2.2.2.2.1) }] { c := fun _ => none, cc := [], ms := [], tn := [], sh := false, fm := [] } rfl 5000 ⟨⟨fun _ _ => rfl, fun k x y => by kernel_rfl⟩, trivial⟩ (fun k x y => by kernel_rfl)

end
end Go.Proofs.YtcjfheidmlcbfaaGreatDoor.PSr
