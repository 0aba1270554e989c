/- Go functions as Lean functions, each with its contract. -/
import Derived.Test.YtgagpmiooeoodaaGreatQTwox2
set_option linter.unusedVariables false
set_option maxRecDepth 100000
namespace Go.Proofs.YtgagpmiooeoodaaGreat.PTwo
open Go Go.Proofs Go.RowKit Go.Proofs.YtgagpmiooeoodaaGreat.V
/-! ### loop.example/g00076/impl.joined: function 96 -/
mutual
def impl_joined.l8 : Nat → Bool → S42 → (List Bool) → Option ((List Int))
  | 0, _, _, _ => none
  | k + 1, x6, y0, h1 => if x6 = true then (impl_joined.l14 k false y0.f9 (y0.f9.length : Int) 0 y0 h1) else (impl_joined.l34 k (h1.length : Int) 0 ([] : List Int) h1)
def impl_joined.l14 : Nat → Bool → (List S119) → Int → Int → S42 → (List Bool) → Option ((List Int))
  | 0, _, _, _, _, _, _ => none
  | k + 1, x6, x23, x24, x25, y0, h1 => if x25 < x24 then (if 0 ≤ x25 then (if x25 < (x23.length : Int) then (if 0 ≤ (rd_T119 x23 x25).f2 then (if (rd_T119 x23 x25).f2 < (h1.length : Int) then (if (rd_bool h1 ((rd_T119 x23 x25).f2)) = true then (if 0 ≤ (rd_T119 x23 x25).f1 then (if (rd_T119 x23 x25).f1 < (h1.length : Int) then (if (rd_T119 x23 x25).f0 = 1 then (if 0 ≤ (rd_T119 x23 x25).f1 then (if (rd_T119 x23 x25).f1 < (h1.length : Int) then (if (rd_bool h1 ((rd_T119 x23 x25).f1)) = true then (if 0 ≤ (rd_T119 x23 x25).f2 then (if (rd_T119 x23 x25).f2 < (h1.length : Int) then (impl_joined.l23 k x6 (!(rd_bool h1 ((rd_T119 x23 x25).f1))) (!(rd_bool h1 ((rd_T119 x23 x25).f2))) x23 x24 x25 y0 h1 (rd_T119 x23 x25)) else none) else none) else (impl_joined.l23 k x6 (!(rd_bool h1 ((rd_T119 x23 x25).f1))) false x23 x24 x25 y0 h1 (rd_T119 x23 x25))) else none) else none) else (impl_joined.l23 k x6 (!(rd_bool h1 ((rd_T119 x23 x25).f1))) false x23 x24 x25 y0 h1 (rd_T119 x23 x25))) else none) else none) else (if (rd_T119 x23 x25).f0 = 1 then (if 0 ≤ (rd_T119 x23 x25).f1 then (if (rd_T119 x23 x25).f1 < (h1.length : Int) then (if (rd_bool h1 ((rd_T119 x23 x25).f1)) = true then (if 0 ≤ (rd_T119 x23 x25).f2 then (if (rd_T119 x23 x25).f2 < (h1.length : Int) then (impl_joined.l23 k x6 false (!(rd_bool h1 ((rd_T119 x23 x25).f2))) x23 x24 x25 y0 h1 (rd_T119 x23 x25)) else none) else none) else (impl_joined.l23 k x6 false false x23 x24 x25 y0 h1 (rd_T119 x23 x25))) else none) else none) else (impl_joined.l23 k x6 false false x23 x24 x25 y0 h1 (rd_T119 x23 x25)))) else none) else none) else none) else none) else (impl_joined.l8 k x6 y0 h1)
def impl_joined.l34 : Nat → Int → Int → (List Int) → (List Bool) → Option ((List Int))
  | 0, _, _, _, _ => none
  | k + 1, x93, x94, h0, h1 => if x94 < x93 then (if 0 ≤ x94 then (if x94 < (h1.length : Int) then (if (rd_bool h1 x94) = true then (if h0.length + ([x94] : List Int).length < 17592186044416 then (impl_joined.l34 k x93 (wrap64 (x94 + 1)) (h0 ++ ([x94] : List Int)) h1) else none) else (impl_joined.l34 k x93 (wrap64 (x94 + 1)) h0 h1)) else none) else none) else (some h0)
def impl_joined.l23 : Nat → Bool → Bool → Bool → (List S119) → Int → Int → S42 → (List Bool) → S119 → Option ((List Int))
  | 0, _, _, _, _, _, _, _, _, _ => none
  | k + 1, x6, x9, x10, x23, x24, x25, y0, h1, y2 => if 0 ≤ y2.f1 then (if y2.f1 < (h1.length : Int) then (if (rd_bool h1 y2.f1) = true then (if 0 ≤ y2.f1 then (if y2.f1 < (h1.length : Int) then (if 0 ≤ y2.f2 then (if y2.f2 < ((h1.set y2.f1.toNat true).length : Int) then (if (rd_bool (h1.set y2.f1.toNat true) y2.f2) = true then (if 0 ≤ y2.f2 then (if y2.f2 < ((h1.set y2.f1.toNat true).length : Int) then (impl_joined.l27 k x6 x9 x10 x23 x24 x25 y0 ((h1.set y2.f1.toNat true).set y2.f2.toNat true)) else none) else none) else (if 0 ≤ y2.f2 then (if y2.f2 < ((h1.set y2.f1.toNat true).length : Int) then (impl_joined.l27 k x6 x9 x10 x23 x24 x25 y0 ((h1.set y2.f1.toNat true).set y2.f2.toNat x10)) else none) else none)) else none) else none) else none) else none) else (if 0 ≤ y2.f1 then (if y2.f1 < (h1.length : Int) then (if 0 ≤ y2.f2 then (if y2.f2 < ((h1.set y2.f1.toNat x9).length : Int) then (if (rd_bool (h1.set y2.f1.toNat x9) y2.f2) = true then (if 0 ≤ y2.f2 then (if y2.f2 < ((h1.set y2.f1.toNat x9).length : Int) then (impl_joined.l27 k x6 x9 x10 x23 x24 x25 y0 ((h1.set y2.f1.toNat x9).set y2.f2.toNat true)) else none) else none) else (if 0 ≤ y2.f2 then (if y2.f2 < ((h1.set y2.f1.toNat x9).length : Int) then (impl_joined.l27 k x6 x9 x10 x23 x24 x25 y0 ((h1.set y2.f1.toNat x9).set y2.f2.toNat x10)) else none) else none)) else none) else none) else none) else none)) else none) else none
def impl_joined.l27 : Nat → Bool → Bool → Bool → (List S119) → Int → Int → S42 → (List Bool) → Option ((List Int))
  | 0, _, _, _, _, _, _, _, _ => none
  | k + 1, x6, x9, x10, x23, x24, x25, y0, h1 => if x6 = true then (impl_joined.l14 k true x23 x24 (wrap64 (x25 + 1)) y0 h1) else (if x9 = true then (impl_joined.l14 k true x23 x24 (wrap64 (x25 + 1)) y0 h1) else (impl_joined.l14 k x10 x23 x24 (wrap64 (x25 + 1)) y0 h1))
end
def impl_joined.f (k : Nat) (a0 : S42) (a1 : Int) : Option ((List Int)) := if 0 ≤ (a0.f7.length : Int) then (if (a0.f7.length : Int) ≤ (a0.f7.length : Int) then (if (a0.f7.length : Int).toNat ≤ 281474976710656 then (if 0 ≤ a1 then (if a1 < ((List.replicate (a0.f7.length : Int).toNat false).length : Int) then (impl_joined.l8 k true a0 ((List.replicate (a0.f7.length : Int).toNat false).set a1.toNat true)) else none) else none) else none) else none) else none
def impl_joined.c : FnD := { f := 96, sh := false, ps := [.agg T42, .c (.int .i64)], pb := [], vc := .c (.own 0), bs := [.arr (.int .i64) .un], R := (List Int), fn := fun k x y => impl_joined.f k x.1 x.2.1, out := fun y => ((), (y, ())), inn := fun d => d.2.1, inv := fun _ => rfl }
theorem impl_joined.ok : impl_joined.c.OK Tryz.prog :=
  FnD.of impl_joined.c mix tok (fn := Tryz.f96) Tryz.func96 (by kernel_rfl) (fun _ _ => by kernel_rfl) (by kernel_rfl) (by kernel_rfl) [] trivial
    [{ lbl := 8, live := [(2, none), (5, none), (6, none)], ms := [], vs := [.c (.ptr 0 0), .c (.own 1), .c (.bool)], bs := [.cells 42 [.int .i64, .int .i64, .int .i64, .int .i64, .int .i64, .int .i64, .int .i64, .int .i64, .int .i64, .int .i64, .int .i64, .int .i64, .int .i64, .int .i64, .int .i64, .sl false T128, .sl false (.int .i64), .sl false T119, .sl false T140], .arr .bool .un], f := fun k x y => impl_joined.l8 k x.2.2.1 (y.1.1, (y.1.2.1, y.1.2.2.1, y.1.2.2.2.1), y.1.2.2.2.2.1, (y.1.2.2.2.2.2.1, y.1.2.2.2.2.2.2.1, y.1.2.2.2.2.2.2.2.1, y.1.2.2.2.2.2.2.2.2.1, y.1.2.2.2.2.2.2.2.2.2.1, y.1.2.2.2.2.2.2.2.2.2.2.1, y.1.2.2.2.2.2.2.2.2.2.2.2.1), y.1.2.2.2.2.2.2.2.2.2.2.2.2.1, y.1.2.2.2.2.2.2.2.2.2.2.2.2.2.1, y.1.2.2.2.2.2.2.2.2.2.2.2.2.2.2.1, y.1.2.2.2.2.2.2.2.2.2.2.2.2.2.2.2.1, y.1.2.2.2.2.2.2.2.2.2.2.2.2.2.2.2.2.1, y.1.2.2.2.2.2.2.2.2.2.2.2.2.2.2.2.2.2.1, y.1.2.2.2.2.2.2.2.2.2.2.2.2.2.2.2.2.2.2.1) y.2.1 },
      { lbl := 14, live := [(2, none), (5, none), (6, none), (23, none), (24, none), (25, none)], ms := [], vs := [.c (.ptr 0 0), .c (.own 1), .c (.bool), .c (.sl false T119), .c (.int .i64), .c (.int .i64)], bs := [.cells 42 [.int .i64, .int .i64, .int .i64, .int .i64, .int .i64, .int .i64, .int .i64, .int .i64, .int .i64, .int .i64, .int .i64, .int .i64, .int .i64, .int .i64, .int .i64, .sl false T128, .sl false (.int .i64), .sl false T119, .sl false T140], .arr .bool .un], f := fun k x y => impl_joined.l14 k x.2.2.1 x.2.2.2.1 x.2.2.2.2.1 x.2.2.2.2.2.1 (y.1.1, (y.1.2.1, y.1.2.2.1, y.1.2.2.2.1), y.1.2.2.2.2.1, (y.1.2.2.2.2.2.1, y.1.2.2.2.2.2.2.1, y.1.2.2.2.2.2.2.2.1, y.1.2.2.2.2.2.2.2.2.1, y.1.2.2.2.2.2.2.2.2.2.1, y.1.2.2.2.2.2.2.2.2.2.2.1, y.1.2.2.2.2.2.2.2.2.2.2.2.1), y.1.2.2.2.2.2.2.2.2.2.2.2.2.1, y.1.2.2.2.2.2.2.2.2.2.2.2.2.2.1, y.1.2.2.2.2.2.2.2.2.2.2.2.2.2.2.1, y.1.2.2.2.2.2.2.2.2.2.2.2.2.2.2.2.1, y.1.2.2.2.2.2.2.2.2.2.2.2.2.2.2.2.2.1, y.1.2.2.2.2.2.2.2.2.2.2.2.2.2.2.2.2.2.1, y.1.2.2.2.2.2.2.2.2.2.2.2.2.2.2.2.2.2.2.1) y.2.1 },
      { lbl := 34, live := [(11, some (.row (.int .i64))), (92, none), (93, none), (94, none)], ms := [], vs := [.c (.own 0), .c (.own 1), .c (.int .i64), .c (.int .i64)], bs := [.arr (.int .i64) .un, .arr .bool .un], f := fun k x y => impl_joined.l34 k x.2.2.1 x.2.2.2.1 y.1 y.2.1 },
      { lbl := 23, live := [(2, none), (5, none), (6, none), (8, none), (9, none), (10, none), (23, none), (24, none), (25, none)], ms := [], vs := [.c (.ptr 0 0), .c (.own 1), .c (.bool), .c (.ptr 2 0), .c (.bool), .c (.bool), .c (.sl false T119), .c (.int .i64), .c (.int .i64)], bs := [.cells 42 [.int .i64, .int .i64, .int .i64, .int .i64, .int .i64, .int .i64, .int .i64, .int .i64, .int .i64, .int .i64, .int .i64, .int .i64, .int .i64, .int .i64, .int .i64, .sl false T128, .sl false (.int .i64), .sl false T119, .sl false T140], .arr .bool .un, .cells 119 [.int .i64, .int .i64, .int .i64, .int .i64]], f := fun k x y => impl_joined.l23 k x.2.2.1 x.2.2.2.2.1 x.2.2.2.2.2.1 x.2.2.2.2.2.2.1 x.2.2.2.2.2.2.2.1 x.2.2.2.2.2.2.2.2.1 (y.1.1, (y.1.2.1, y.1.2.2.1, y.1.2.2.2.1), y.1.2.2.2.2.1, (y.1.2.2.2.2.2.1, y.1.2.2.2.2.2.2.1, y.1.2.2.2.2.2.2.2.1, y.1.2.2.2.2.2.2.2.2.1, y.1.2.2.2.2.2.2.2.2.2.1, y.1.2.2.2.2.2.2.2.2.2.2.1, y.1.2.2.2.2.2.2.2.2.2.2.2.1), y.1.2.2.2.2.2.2.2.2.2.2.2.2.1, y.1.2.2.2.2.2.2.2.2.2.2.2.2.2.1, y.1.2.2.2.2.2.2.2.2.2.2.2.2.2.2.1, y.1.2.2.2.2.2.2.2.2.2.2.2.2.2.2.2.1, y.1.2.2.2.2.2.2.2.2.2.2.2.2.2.2.2.2.1, y.1.2.2.2.2.2.2.2.2.2.2.2.2.2.2.2.2.2.1, y.1.2.2.2.2.2.2.2.2.2.2.2.2.2.2.2.2.2.2.1) y.2.1 (y.2.2.1.1, y.2.2.1.2.1, y.2.2.1.2.2.1, y.2.2.1.2.2.2.1) },
      { lbl := 27, live := [(2, none), (5, none), (6, none), (9, none), (10, none), (23, none), (24, none), (25, none)], ms := [], vs := [.c (.ptr 0 0), .c (.own 1), .c (.bool), .c (.bool), .c (.bool), .c (.sl false T119), .c (.int .i64), .c (.int .i64)], bs := [.cells 42 [.int .i64, .int .i64, .int .i64, .int .i64, .int .i64, .int .i64, .int .i64, .int .i64, .int .i64, .int .i64, .int .i64, .int .i64, .int .i64, .int .i64, .int .i64, .sl false T128, .sl false (.int .i64), .sl false T119, .sl false T140], .arr .bool .un], f := fun k x y => impl_joined.l27 k x.2.2.1 x.2.2.2.1 x.2.2.2.2.1 x.2.2.2.2.2.1 x.2.2.2.2.2.2.1 x.2.2.2.2.2.2.2.1 (y.1.1, (y.1.2.1, y.1.2.2.1, y.1.2.2.2.1), y.1.2.2.2.2.1, (y.1.2.2.2.2.2.1, y.1.2.2.2.2.2.2.1, y.1.2.2.2.2.2.2.2.1, y.1.2.2.2.2.2.2.2.2.1, y.1.2.2.2.2.2.2.2.2.2.1, y.1.2.2.2.2.2.2.2.2.2.2.1, y.1.2.2.2.2.2.2.2.2.2.2.2.1), y.1.2.2.2.2.2.2.2.2.2.2.2.2.1, y.1.2.2.2.2.2.2.2.2.2.2.2.2.2.1, y.1.2.2.2.2.2.2.2.2.2.2.2.2.2.2.1, y.1.2.2.2.2.2.2.2.2.2.2.2.2.2.2.2.1, y.1.2.2.2.2.2.2.2.2.2.2.2.2.2.2.2.2.1, y.1.2.2.2.2.2.2.2.2.2.2.2.2.2.2.2.2.2.1, y.1.2.2.2.2.2.2.2.2.2.2.2.2.2.2.2.2.2.2.1) y.2.1 }] { c := fun _ => none, ms := [], sh := false } rfl 5000 ⟨⟨fun _ _ => rfl, fun k x y => by kernel_rfl⟩, ⟨⟨fun _ _ => rfl, fun k x y => by kernel_rfl⟩, ⟨⟨fun _ _ => rfl, fun k x y => by kernel_rfl⟩, ⟨⟨fun _ _ => rfl, fun k x y => by kernel_rfl⟩, ⟨⟨fun _ _ => rfl, fun k x y => by kernel_rfl⟩, trivial⟩⟩⟩⟩⟩ (fun k x y => by kernel_rfl)

/-! ### loop.example/g00076/impl.Joined: function 29 -/
def impl_Joined.f (k : Nat) (a0 : S42) (a1 : Int) : Option ((List Int)) := (impl_isSound.f k a0).bind fun t1 => (if t1 = true then ((impl_within.f a1 0 (wrap64 ((a0.f7.length : Int) - 1))).bind fun t2 => (if t2 = true then ((impl_joined.f k a0 a1).bind fun t3 => (some t3)) else (some ([] : List Int)))) else (some ([] : List Int)))
def impl_Joined.c : FnD := { f := 29, sh := false, ps := [.agg T42, .c (.int .i64)], pb := [], vc := .c (.own 0), bs := [.arr (.int .i64) .un], R := (List Int), fn := fun k x y => impl_Joined.f k x.1 x.2.1, out := fun y => ((), (y, ())), inn := fun d => d.2.1, inv := fun _ => rfl }
theorem impl_Joined.ok : impl_Joined.c.OK Tryz.prog :=
  FnD.of impl_Joined.c mix tok (fn := Tryz.f29) Tryz.func29 (by kernel_rfl) (fun _ _ => by kernel_rfl) (by kernel_rfl) (by kernel_rfl) [impl_isSound.c, impl_within.c, impl_joined.c] ⟨impl_isSound.ok, ⟨impl_within.ok, ⟨impl_joined.ok, trivial⟩⟩⟩
    [] { c := fun n => bif Nat.beq n 0 then some (.row (.int .i64)) else  none, ms := [], sh := false } rfl 5000 trivial (fun k x y => by kernel_rfl)

/-! ### loop.example/g00076/laws.eqIntS: function 30 -/
def laws_eqIntS.l8 : Nat → (List Int) → (List Int) → Int → Option (Bool)
  | 0, _, _, _ => none
  | k + 1, x0, x1, x5 => if x5 < (x0.length : Int) then (if 0 ≤ x5 then (if x5 < (x0.length : Int) then (if 0 ≤ x5 then (if x5 < (x1.length : Int) then (if (rd x0 x5) = (rd x1 x5) then (laws_eqIntS.l8 k x0 x1 (wrap64 (x5 + 1))) else (some false)) else none) else none) else none) else none) else (some true)
def laws_eqIntS.f (k : Nat) (a0 : List Int) (a1 : List Int) : Option (Bool) := if (a0.length : Int) = (a1.length : Int) then (laws_eqIntS.l8 k a0 a1 0) else (some false)
def laws_eqIntS.c : FnD := { f := 30, sh := false, ps := [.c (.sl (.int .i64)), .c (.sl (.int .i64))], pb := [], vc := .c (.bool), bs := [], R := Bool, fn := fun k x y => laws_eqIntS.f k x.1 x.2.1, out := fun y => (y, ()), inn := fun d => d.1, inv := fun _ => rfl }
theorem laws_eqIntS.ok : laws_eqIntS.c.OK Tryz.prog :=
  FnD.of laws_eqIntS.c mix tok (fn := Tryz.f30) Tryz.func30 (by kernel_rfl) (fun _ _ => by kernel_rfl) (by kernel_rfl) (by kernel_rfl) [] trivial
    [{ lbl := 8, live := [(0, none), (1, none), (5, none)], ms := [], vs := [.c (.sl false (.int .i64)), .c (.sl false (.int .i64)), .c (.int .i64)], bs := [], f := fun k x y => laws_eqIntS.l8 k x.1 x.2.1 x.2.2.1 }] { c := fun _ => none, ms := [], sh := false } rfl 5000 ⟨⟨fun _ _ => rfl, fun k x y => by kernel_rfl⟩, trivial⟩ (fun k x y => by kernel_rfl)

/-! ### loop.example/g00076/laws.eqShape: function 84 -/
def laws_eqShape.f (a0 : S36) (a1 : S36) : Option (Bool) := if a0.f0 = a1.f0 then (if a0.f1 = a1.f1 then (if a0.f2 = a1.f2 then (some true) else (some false)) else (some false)) else (some false)
def laws_eqShape.c : FnD := { f := 84, sh := false, ps := [.agg T36, .agg T36], pb := [], vc := .c (.bool), bs := [], R := Bool, fn := fun _ x y => laws_eqShape.f x.1 x.2.1, out := fun y => (y, ()), inn := fun d => d.1, inv := fun _ => rfl }
theorem laws_eqShape.ok : laws_eqShape.c.OK Tryz.prog :=
  FnD.of laws_eqShape.c mix tok (fn := Tryz.f84) Tryz.func84 (by kernel_rfl) (fun _ _ => by kernel_rfl) (by kernel_rfl) (by kernel_rfl) [] trivial
    [] { c := fun _ => none, ms := [], sh := false } rfl 5000 trivial (fun k x y => by kernel_rfl)

/-! ### loop.example/g00076/laws.eqCosts: function 85 -/
def laws_eqCosts.f (a0 : S37) (a1 : S37) : Option (Bool) := if a0.f0 = a1.f0 then (if a0.f1 = a1.f1 then (if a0.f2 = a1.f2 then (if a0.f3 = a1.f3 then (if a0.f4 = a1.f4 then (if a0.f5 = a1.f5 then (if a0.f6 = a1.f6 then (some true) else (some false)) else (some false)) else (some false)) else (some false)) else (some false)) else (some false)) else (some false)
def laws_eqCosts.c : FnD := { f := 85, sh := false, ps := [.agg T37, .agg T37], pb := [], vc := .c (.bool), bs := [], R := Bool, fn := fun _ x y => laws_eqCosts.f x.1 x.2.1, out := fun y => (y, ()), inn := fun d => d.1, inv := fun _ => rfl }
theorem laws_eqCosts.ok : laws_eqCosts.c.OK Tryz.prog :=
  FnD.of laws_eqCosts.c mix tok (fn := Tryz.f85) Tryz.func85 (by kernel_rfl) (fun _ _ => by kernel_rfl) (by kernel_rfl) (by kernel_rfl) [] trivial
    [] { c := fun _ => none, ms := [], sh := false } rfl 5000 trivial (fun k x y => by kernel_rfl)

/-! ### loop.example/g00076/laws.eqPolicy: function 197 -/
def laws_eqPolicy.f (a0 : S125) (a1 : S125) : Option (Bool) := if a0.f0 = a1.f0 then (if a0.f1 = a1.f1 then (some true) else (some false)) else (some false)
def laws_eqPolicy.c : FnD := { f := 197, sh := false, ps := [.agg T125, .agg T125], pb := [], vc := .c (.bool), bs := [], R := Bool, fn := fun _ x y => laws_eqPolicy.f x.1 x.2.1, out := fun y => (y, ()), inn := fun d => d.1, inv := fun _ => rfl }
theorem laws_eqPolicy.ok : laws_eqPolicy.c.OK Tryz.prog :=
  FnD.of laws_eqPolicy.c mix tok (fn := Tryz.f197) Tryz.func197 (by kernel_rfl) (fun _ _ => by kernel_rfl) (by kernel_rfl) (by kernel_rfl) [] trivial
    [] { c := fun _ => none, ms := [], sh := false } rfl 5000 trivial (fun k x y => by kernel_rfl)

/-! ### loop.example/g00076/laws.eqWindow: function 216 -/
def laws_eqWindow.f (a0 : S131) (a1 : S131) : Option (Bool) := if a0.f0 = a1.f0 then (if a0.f1 = a1.f1 then (if a0.f2 = a1.f2 then (some true) else (some false)) else (some false)) else (some false)
def laws_eqWindow.c : FnD := { f := 216, sh := false, ps := [.agg T131, .agg T131], pb := [], vc := .c (.bool), bs := [], R := Bool, fn := fun _ x y => laws_eqWindow.f x.1 x.2.1, out := fun y => (y, ()), inn := fun d => d.1, inv := fun _ => rfl }
theorem laws_eqWindow.ok : laws_eqWindow.c.OK Tryz.prog :=
  FnD.of laws_eqWindow.c mix tok (fn := Tryz.f216) Tryz.func216 (by kernel_rfl) (fun _ _ => by kernel_rfl) (by kernel_rfl) (by kernel_rfl) [] trivial
    [] { c := fun _ => none, ms := [], sh := false } rfl 5000 trivial (fun k x y => by kernel_rfl)

/-! ### loop.example/g00076/laws.eqWindowS: function 198 -/
def laws_eqWindowS.l8 : Nat → (List S131) → (List S131) → Int → Option (Bool)
  | 0, _, _, _ => none
  | k + 1, x0, x1, x5 => if x5 < (x0.length : Int) then (if 0 ≤ x5 then (if x5 < (x0.length : Int) then (if 0 ≤ x5 then (if x5 < (x1.length : Int) then ((laws_eqWindow.f (rd_T131 x0 x5) (rd_T131 x1 x5)).bind fun t1 => (if t1 = true then (laws_eqWindowS.l8 k x0 x1 (wrap64 (x5 + 1))) else (some false))) else none) else none) else none) else none) else (some true)
def laws_eqWindowS.f (k : Nat) (a0 : List S131) (a1 : List S131) : Option (Bool) := if (a0.length : Int) = (a1.length : Int) then (laws_eqWindowS.l8 k a0 a1 0) else (some false)
def laws_eqWindowS.c : FnD := { f := 198, sh := false, ps := [.c (.sl T131), .c (.sl T131)], pb := [], vc := .c (.bool), bs := [], R := Bool, fn := fun k x y => laws_eqWindowS.f k x.1 x.2.1, out := fun y => (y, ()), inn := fun d => d.1, inv := fun _ => rfl }
theorem laws_eqWindowS.ok : laws_eqWindowS.c.OK Tryz.prog :=
  FnD.of laws_eqWindowS.c mix tok (fn := Tryz.f198) Tryz.func198 (by kernel_rfl) (fun _ _ => by kernel_rfl) (by kernel_rfl) (by kernel_rfl) [laws_eqWindow.c] ⟨laws_eqWindow.ok, trivial⟩
    [{ lbl := 8, live := [(0, none), (1, none), (5, none)], ms := [], vs := [.c (.sl false T131), .c (.sl false T131), .c (.int .i64)], bs := [], f := fun k x y => laws_eqWindowS.l8 k x.1 x.2.1 x.2.2.1 }] { c := fun _ => none, ms := [], sh := false } rfl 5000 ⟨⟨fun _ _ => rfl, fun k x y => by kernel_rfl⟩, trivial⟩ (fun k x y => by kernel_rfl)

/-! ### loop.example/g00076/laws.eqPartRow: function 149 -/
def laws_eqPartRow.f (k : Nat) (a0 : S128) (a1 : S128) : Option (Bool) := if a0.f0 = a1.f0 then (if a0.f1 = a1.f1 then ((laws_eqPolicy.f a0.f2 a1.f2).bind fun t1 => (if t1 = true then ((laws_eqWindowS.f k a0.f3 a1.f3).bind fun t2 => (if t2 = true then (some true) else (some false))) else (some false))) else (some false)) else (some false)
def laws_eqPartRow.c : FnD := { f := 149, sh := false, ps := [.agg T128, .agg T128], pb := [], vc := .c (.bool), bs := [], R := Bool, fn := fun k x y => laws_eqPartRow.f k x.1 x.2.1, out := fun y => (y, ()), inn := fun d => d.1, inv := fun _ => rfl }
theorem laws_eqPartRow.ok : laws_eqPartRow.c.OK Tryz.prog :=
  FnD.of laws_eqPartRow.c mix tok (fn := Tryz.f149) Tryz.func149 (by kernel_rfl) (fun _ _ => by kernel_rfl) (by kernel_rfl) (by kernel_rfl) [laws_eqPolicy.c, laws_eqWindowS.c] ⟨laws_eqPolicy.ok, ⟨laws_eqWindowS.ok, trivial⟩⟩
    [] { c := fun _ => none, ms := [], sh := false } rfl 5000 trivial (fun k x y => by kernel_rfl)

/-! ### loop.example/g00076/laws.eqPartRowS: function 86 -/
def laws_eqPartRowS.l8 : Nat → (List S128) → (List S128) → Int → Option (Bool)
  | 0, _, _, _ => none
  | k + 1, x0, x1, x5 => if x5 < (x0.length : Int) then (if 0 ≤ x5 then (if x5 < (x0.length : Int) then (if 0 ≤ x5 then (if x5 < (x1.length : Int) then ((laws_eqPartRow.f k (rd_T128 x0 x5) (rd_T128 x1 x5)).bind fun t1 => (if t1 = true then (laws_eqPartRowS.l8 k x0 x1 (wrap64 (x5 + 1))) else (some false))) else none) else none) else none) else none) else (some true)
def laws_eqPartRowS.f (k : Nat) (a0 : List S128) (a1 : List S128) : Option (Bool) := if (a0.length : Int) = (a1.length : Int) then (laws_eqPartRowS.l8 k a0 a1 0) else (some false)
def laws_eqPartRowS.c : FnD := { f := 86, sh := false, ps := [.c (.sl T128), .c (.sl T128)], pb := [], vc := .c (.bool), bs := [], R := Bool, fn := fun k x y => laws_eqPartRowS.f k x.1 x.2.1, out := fun y => (y, ()), inn := fun d => d.1, inv := fun _ => rfl }
theorem laws_eqPartRowS.ok : laws_eqPartRowS.c.OK Tryz.prog :=
  FnD.of laws_eqPartRowS.c mix tok (fn := Tryz.f86) Tryz.func86 (by kernel_rfl) (fun _ _ => by kernel_rfl) (by kernel_rfl) (by kernel_rfl) [laws_eqPartRow.c] ⟨laws_eqPartRow.ok, trivial⟩
    [{ lbl := 8, live := [(0, none), (1, none), (5, none)], ms := [], vs := [.c (.sl false T128), .c (.sl false T128), .c (.int .i64)], bs := [], f := fun k x y => laws_eqPartRowS.l8 k x.1 x.2.1 x.2.2.1 }] { c := fun _ => none, ms := [], sh := false } rfl 5000 ⟨⟨fun _ _ => rfl, fun k x y => by kernel_rfl⟩, trivial⟩ (fun k x y => by kernel_rfl)

/-! ### loop.example/g00076/laws.eqChanRow: function 150 -/
def laws_eqChanRow.f (a0 : S119) (a1 : S119) : Option (Bool) := if a0.f0 = a1.f0 then (if a0.f1 = a1.f1 then (if a0.f2 = a1.f2 then (if a0.f3 = a1.f3 then (some true) else (some false)) else (some false)) else (some false)) else (some false)
def laws_eqChanRow.c : FnD := { f := 150, sh := false, ps := [.agg T119, .agg T119], pb := [], vc := .c (.bool), bs := [], R := Bool, fn := fun _ x y => laws_eqChanRow.f x.1 x.2.1, out := fun y => (y, ()), inn := fun d => d.1, inv := fun _ => rfl }
theorem laws_eqChanRow.ok : laws_eqChanRow.c.OK Tryz.prog :=
  FnD.of laws_eqChanRow.c mix tok (fn := Tryz.f150) Tryz.func150 (by kernel_rfl) (fun _ _ => by kernel_rfl) (by kernel_rfl) (by kernel_rfl) [] trivial
    [] { c := fun _ => none, ms := [], sh := false } rfl 5000 trivial (fun k x y => by kernel_rfl)

/-! ### loop.example/g00076/laws.eqChanRowS: function 87 -/
def laws_eqChanRowS.l8 : Nat → (List S119) → (List S119) → Int → Option (Bool)
  | 0, _, _, _ => none
  | k + 1, x0, x1, x5 => if x5 < (x0.length : Int) then (if 0 ≤ x5 then (if x5 < (x0.length : Int) then (if 0 ≤ x5 then (if x5 < (x1.length : Int) then ((laws_eqChanRow.f (rd_T119 x0 x5) (rd_T119 x1 x5)).bind fun t1 => (if t1 = true then (laws_eqChanRowS.l8 k x0 x1 (wrap64 (x5 + 1))) else (some false))) else none) else none) else none) else none) else (some true)
def laws_eqChanRowS.f (k : Nat) (a0 : List S119) (a1 : List S119) : Option (Bool) := if (a0.length : Int) = (a1.length : Int) then (laws_eqChanRowS.l8 k a0 a1 0) else (some false)
def laws_eqChanRowS.c : FnD := { f := 87, sh := false, ps := [.c (.sl T119), .c (.sl T119)], pb := [], vc := .c (.bool), bs := [], R := Bool, fn := fun k x y => laws_eqChanRowS.f k x.1 x.2.1, out := fun y => (y, ()), inn := fun d => d.1, inv := fun _ => rfl }
theorem laws_eqChanRowS.ok : laws_eqChanRowS.c.OK Tryz.prog :=
  FnD.of laws_eqChanRowS.c mix tok (fn := Tryz.f87) Tryz.func87 (by kernel_rfl) (fun _ _ => by kernel_rfl) (by kernel_rfl) (by kernel_rfl) [laws_eqChanRow.c] ⟨laws_eqChanRow.ok, trivial⟩
    [{ lbl := 8, live := [(0, none), (1, none), (5, none)], ms := [], vs := [.c (.sl false T119), .c (.sl false T119), .c (.int .i64)], bs := [], f := fun k x y => laws_eqChanRowS.l8 k x.1 x.2.1 x.2.2.1 }] { c := fun _ => none, ms := [], sh := false } rfl 5000 ⟨⟨fun _ _ => rfl, fun k x y => by kernel_rfl⟩, trivial⟩ (fun k x y => by kernel_rfl)

/-! ### loop.example/g00076/laws.eqSlot: function 151 -/
def laws_eqSlot.f (a0 : S140) (a1 : S140) : Option (Bool) := if a0.f0 = a1.f0 then (if a0.f1 = a1.f1 then (if a0.f2 = a1.f2 then (some true) else (some false)) else (some false)) else (some false)
def laws_eqSlot.c : FnD := { f := 151, sh := false, ps := [.agg T140, .agg T140], pb := [], vc := .c (.bool), bs := [], R := Bool, fn := fun _ x y => laws_eqSlot.f x.1 x.2.1, out := fun y => (y, ()), inn := fun d => d.1, inv := fun _ => rfl }
theorem laws_eqSlot.ok : laws_eqSlot.c.OK Tryz.prog :=
  FnD.of laws_eqSlot.c mix tok (fn := Tryz.f151) Tryz.func151 (by kernel_rfl) (fun _ _ => by kernel_rfl) (by kernel_rfl) (by kernel_rfl) [] trivial
    [] { c := fun _ => none, ms := [], sh := false } rfl 5000 trivial (fun k x y => by kernel_rfl)

/-! ### loop.example/g00076/laws.eqSlotS: function 88 -/
def laws_eqSlotS.l8 : Nat → (List S140) → (List S140) → Int → Option (Bool)
  | 0, _, _, _ => none
  | k + 1, x0, x1, x5 => if x5 < (x0.length : Int) then (if 0 ≤ x5 then (if x5 < (x0.length : Int) then (if 0 ≤ x5 then (if x5 < (x1.length : Int) then ((laws_eqSlot.f (rd_T140 x0 x5) (rd_T140 x1 x5)).bind fun t1 => (if t1 = true then (laws_eqSlotS.l8 k x0 x1 (wrap64 (x5 + 1))) else (some false))) else none) else none) else none) else none) else (some true)
def laws_eqSlotS.f (k : Nat) (a0 : List S140) (a1 : List S140) : Option (Bool) := if (a0.length : Int) = (a1.length : Int) then (laws_eqSlotS.l8 k a0 a1 0) else (some false)
def laws_eqSlotS.c : FnD := { f := 88, sh := false, ps := [.c (.sl T140), .c (.sl T140)], pb := [], vc := .c (.bool), bs := [], R := Bool, fn := fun k x y => laws_eqSlotS.f k x.1 x.2.1, out := fun y => (y, ()), inn := fun d => d.1, inv := fun _ => rfl }
theorem laws_eqSlotS.ok : laws_eqSlotS.c.OK Tryz.prog :=
  FnD.of laws_eqSlotS.c mix tok (fn := Tryz.f88) Tryz.func88 (by kernel_rfl) (fun _ _ => by kernel_rfl) (by kernel_rfl) (by kernel_rfl) [laws_eqSlot.c] ⟨laws_eqSlot.ok, trivial⟩
    [{ lbl := 8, live := [(0, none), (1, none), (5, none)], ms := [], vs := [.c (.sl false T140), .c (.sl false T140), .c (.int .i64)], bs := [], f := fun k x y => laws_eqSlotS.l8 k x.1 x.2.1 x.2.2.1 }] { c := fun _ => none, ms := [], sh := false } rfl 5000 ⟨⟨fun _ _ => rfl, fun k x y => by kernel_rfl⟩, trivial⟩ (fun k x y => by kernel_rfl)

/-! ### loop.example/g00076/laws.eqTables: function 21 -/
def laws_eqTables.f (k : Nat) (a0 : S42) (a1 : S42) : Option (Bool) := if a0.f0 = a1.f0 then ((laws_eqShape.f a0.f1 a1.f1).bind fun t1 => (if t1 = true then (if a0.f2 = a1.f2 then ((laws_eqCosts.f a0.f3 a1.f3).bind fun t2 => (if t2 = true then (if a0.f4 = a1.f4 then (if a0.f5 = a1.f5 then (if a0.f6 = a1.f6 then ((laws_eqPartRowS.f k a0.f7 a1.f7).bind fun t3 => (if t3 = true then ((laws_eqIntS.f k a0.f8 a1.f8).bind fun t4 => (if t4 = true then ((laws_eqChanRowS.f k a0.f9 a1.f9).bind fun t5 => (if t5 = true then ((laws_eqSlotS.f k a0.f10 a1.f10).bind fun t6 => (if t6 = true then (some true) else (some false))) else (some false))) else (some false))) else (some false))) else (some false)) else (some false)) else (some false)) else (some false))) else (some false)) else (some false))) else (some false)
def laws_eqTables.c : FnD := { f := 21, sh := false, ps := [.agg T42, .agg T42], pb := [], vc := .c (.bool), bs := [], R := Bool, fn := fun k x y => laws_eqTables.f k x.1 x.2.1, out := fun y => (y, ()), inn := fun d => d.1, inv := fun _ => rfl }
theorem laws_eqTables.ok : laws_eqTables.c.OK Tryz.prog :=
  FnD.of laws_eqTables.c mix tok (fn := Tryz.f21) Tryz.func21 (by kernel_rfl) (fun _ _ => by kernel_rfl) (by kernel_rfl) (by kernel_rfl) [laws_eqShape.c, laws_eqCosts.c, laws_eqPartRowS.c, laws_eqIntS.c, laws_eqChanRowS.c, laws_eqSlotS.c] ⟨laws_eqShape.ok, ⟨laws_eqCosts.ok, ⟨laws_eqPartRowS.ok, ⟨laws_eqIntS.ok, ⟨laws_eqChanRowS.ok, ⟨laws_eqSlotS.ok, trivial⟩⟩⟩⟩⟩⟩
    [] { c := fun _ => none, ms := [], sh := false } rfl 5000 trivial (fun k x y => by kernel_rfl)

/-! ### loop.example/g00076/laws.markText: function 155 -/
def laws_markText.l8 : Nat → Int → ByteArray → Option (ByteArray)
  | 0, _, _ => none
  | k + 1, x0, x3 => if x0 > 0 then (if (strOf ([(IntKind.wrap .u8 ((wrap64 (48 + (Int.tmod x0 10)))))] : List Int)).size + x3.size ≤ 9223372036854775807 then (laws_markText.l8 k (wrap64 (Int.tdiv x0 10)) ((strOf ([(IntKind.wrap .u8 ((wrap64 (48 + (Int.tmod x0 10)))))] : List Int)) ++ x3)) else none) else (if (ByteArray.mk #[109]).size + x3.size ≤ 9223372036854775807 then (some ((ByteArray.mk #[109]) ++ x3)) else none)
def laws_markText.f (k : Nat) (a0 : Int) : Option (ByteArray) := if a0 ≤ 0 then (some (ByteArray.mk #[109, 48])) else (laws_markText.l8 k a0 (ByteArray.mk #[]))
def laws_markText.c : FnD := { f := 155, sh := false, ps := [.c (.int .i64)], pb := [], vc := .c (.str), bs := [], R := ByteArray, fn := fun k x y => laws_markText.f k x.1, out := fun y => (y, ()), inn := fun d => d.1, inv := fun _ => rfl }
theorem laws_markText.ok : laws_markText.c.OK Tryz.prog :=
  FnD.of laws_markText.c mix tok (fn := Tryz.f155) Tryz.func155 (by kernel_rfl) (fun _ _ => by kernel_rfl) (by kernel_rfl) (by kernel_rfl) [] trivial
    [{ lbl := 8, live := [(0, none), (3, none)], ms := [], vs := [.c (.int .i64), .c (.str)], bs := [], f := fun k x y => laws_markText.l8 k x.1 x.2.1 }] { c := fun _ => none, ms := [], sh := false } rfl 5000 ⟨⟨fun _ _ => rfl, fun k x y => by kernel_rfl⟩, trivial⟩ (fun k x y => by kernel_rfl)

/-! ### loop.example/g00076/laws.markWindowS: function 156 -/
def laws_markWindowS_o1.l4 : Nat → Int → Int → (List S131) → Option (Int × (List S131))
  | 0, _, _, _ => none
  | k + 1, x1, x5, h0 => if x5 < (h0.length : Int) then (if 0 ≤ x5 then (if x5 < (h0.length : Int) then ((let q1 : List S131 := h0.set x5.toNat (⟨x1, (rd_T131 h0 x5).f1, (rd_T131 h0 x5).f2⟩ : S131); if 0 ≤ x5 then (if x5 < (q1.length : Int) then ((let q2 : List S131 := q1.set x5.toNat (⟨(rd_T131 q1 x5).f0, (wrap64 (x1 + 1)), (rd_T131 q1 x5).f2⟩ : S131); if 0 ≤ x5 then (if x5 < (q2.length : Int) then ((let q3 : List S131 := q2.set x5.toNat (⟨(rd_T131 q2 x5).f0, (rd_T131 q2 x5).f1, (wrap64 ((wrap64 (x1 + 1)) + 1))⟩ : S131); laws_markWindowS_o1.l4 k (wrap64 ((wrap64 ((wrap64 (x1 + 1)) + 1)) + 1)) (wrap64 (x5 + 1)) q3)) else none) else none)) else none) else none)) else none) else none) else (some (x1, h0))
def laws_markWindowS_o1.f (k : Nat) (a1 : Int) (h0 : List S131) : Option (Int × (List S131)) := laws_markWindowS_o1.l4 k a1 0 h0
def laws_markWindowS_o1.c : FnD := { f := 156, sh := false, ps := [.vc (.c (.own 0)), .c (.int .i64)], pb := [.arr T131 .un], vc := .c (.int .i64), bs := [.arr T131 .un], R := Int × (List S131), fn := fun k x y => laws_markWindowS_o1.f k x.2.1 y.1, out := fun y => (y.1, (y.2, ())), inn := fun d => (d.1, d.2.1), inv := fun _ => rfl }
theorem laws_markWindowS_o1.ok : laws_markWindowS_o1.c.OK Tryz.prog :=
  FnD.of laws_markWindowS_o1.c mix tok (fn := Tryz.f156) Tryz.func156 (by kernel_rfl) (fun _ _ => by kernel_rfl) (by kernel_rfl) (by kernel_rfl) [] trivial
    [{ lbl := 4, live := [(0, none), (1, none), (5, none)], ms := [], vs := [.c (.own 0), .c (.int .i64), .c (.int .i64)], bs := [.arr T131 .un], f := fun k x y => laws_markWindowS_o1.l4 k x.2.1 x.2.2.1 y.1 }] { c := fun _ => none, ms := [], sh := false } rfl 5000 ⟨⟨fun _ _ => rfl, fun k x y => by kernel_rfl⟩, trivial⟩ (fun k x y => by kernel_rfl)

/-! ### loop.example/g00076/laws.markPartRowS: function 97 -/
def laws_markPartRowS_o1.l4 : Nat → Int → Int → (List S128) → Option (Int × (List S128))
  | 0, _, _, _ => none
  | k + 1, x1, x5, h0 => if x5 < (h0.length : Int) then ((laws_markText.f k x1).bind fun t1 => (if 0 ≤ x5 then (if x5 < (h0.length : Int) then ((let q2 : List S128 := h0.set x5.toNat (⟨t1, (rd_T128 h0 x5).f1, (rd_T128 h0 x5).f2, (rd_T128 h0 x5).f3⟩ : S128); if 0 ≤ x5 then (if x5 < (q2.length : Int) then ((let q3 : List S128 := q2.set x5.toNat (⟨(rd_T128 q2 x5).f0, (wrap64 (x1 + 1)), (rd_T128 q2 x5).f2, (rd_T128 q2 x5).f3⟩ : S128); if 0 ≤ x5 then (if x5 < (q3.length : Int) then ((let q4 : List S128 := q3.set x5.toNat (⟨(rd_T128 q3 x5).f0, (rd_T128 q3 x5).f1, (⟨(wrap64 ((wrap64 (x1 + 1)) + 1)), ((rd_T128 q3 x5).f2).f1⟩ : S125), (rd_T128 q3 x5).f3⟩ : S128); if 0 ≤ x5 then (if x5 < (q4.length : Int) then ((let q5 : List S128 := q4.set x5.toNat (⟨(rd_T128 q4 x5).f0, (rd_T128 q4 x5).f1, (⟨((rd_T128 q4 x5).f2).f0, (wrap64 ((wrap64 ((wrap64 (x1 + 1)) + 1)) + 1))⟩ : S125), (rd_T128 q4 x5).f3⟩ : S128); if 0 ≤ x5 then (if x5 < (q5.length : Int) then ((laws_markWindowS_o1.f k (wrap64 ((wrap64 ((wrap64 ((wrap64 (x1 + 1)) + 1)) + 1)) + 1)) ((rd_T128 q5 x5).f3)).bind fun t6 => (laws_markPartRowS_o1.l4 k t6.1 (wrap64 (x5 + 1)) (q5.set x5.toNat (⟨(rd_T128 q5 x5).f0, (rd_T128 q5 x5).f1, (rd_T128 q5 x5).f2, t6.2⟩ : S128)))) else none) else none)) else none) else none)) else none) else none)) else none) else none)) else none) else none)) else (some (x1, h0))
def laws_markPartRowS_o1.f (k : Nat) (a1 : Int) (h0 : List S128) : Option (Int × (List S128)) := laws_markPartRowS_o1.l4 k a1 0 h0
def laws_markPartRowS_o1.c : FnD := { f := 97, sh := false, ps := [.vc (.c (.own 0)), .c (.int .i64)], pb := [.arr T128 .un], vc := .c (.int .i64), bs := [.arr T128 .un], R := Int × (List S128), fn := fun k x y => laws_markPartRowS_o1.f k x.2.1 y.1, out := fun y => (y.1, (y.2, ())), inn := fun d => (d.1, d.2.1), inv := fun _ => rfl }
theorem laws_markPartRowS_o1.ok : laws_markPartRowS_o1.c.OK Tryz.prog :=
  FnD.of laws_markPartRowS_o1.c mix tok (fn := Tryz.f97) Tryz.func97 (by kernel_rfl) (fun _ _ => by kernel_rfl) (by kernel_rfl) (by kernel_rfl) [laws_markWindowS_o1.c, laws_markText.c] ⟨laws_markWindowS_o1.ok, ⟨laws_markText.ok, trivial⟩⟩
    [{ lbl := 4, live := [(0, none), (1, none), (5, none)], ms := [], vs := [.c (.own 0), .c (.int .i64), .c (.int .i64)], bs := [.arr T128 .un], f := fun k x y => laws_markPartRowS_o1.l4 k x.2.1 x.2.2.1 y.1 }] { c := fun _ => none, ms := [], sh := false } rfl 5000 ⟨⟨fun _ _ => rfl, fun k x y => by kernel_rfl⟩, trivial⟩ (fun k x y => by kernel_rfl)

/-! ### loop.example/g00076/laws.markIntS: function 32 -/
def laws_markIntS_o1.l4 : Nat → Int → Int → (List Int) → Option (Int × (List Int))
  | 0, _, _, _ => none
  | k + 1, x1, x5, h0 => if x5 < (h0.length : Int) then (if 0 ≤ x5 then (if x5 < (h0.length : Int) then (laws_markIntS_o1.l4 k (wrap64 (x1 + 1)) (wrap64 (x5 + 1)) (h0.set x5.toNat x1)) else none) else none) else (some (x1, h0))
def laws_markIntS_o1.f (k : Nat) (a1 : Int) (h0 : List Int) : Option (Int × (List Int)) := laws_markIntS_o1.l4 k a1 0 h0
def laws_markIntS_o1.c : FnD := { f := 32, sh := false, ps := [.vc (.c (.own 0)), .c (.int .i64)], pb := [.arr (.int .i64) .un], vc := .c (.int .i64), bs := [.arr (.int .i64) .un], R := Int × (List Int), fn := fun k x y => laws_markIntS_o1.f k x.2.1 y.1, out := fun y => (y.1, (y.2, ())), inn := fun d => (d.1, d.2.1), inv := fun _ => rfl }
theorem laws_markIntS_o1.ok : laws_markIntS_o1.c.OK Tryz.prog :=
  FnD.of laws_markIntS_o1.c mix tok (fn := Tryz.f32) Tryz.func32 (by kernel_rfl) (fun _ _ => by kernel_rfl) (by kernel_rfl) (by kernel_rfl) [] trivial
    [{ lbl := 4, live := [(0, none), (1, none), (5, none)], ms := [], vs := [.c (.own 0), .c (.int .i64), .c (.int .i64)], bs := [.arr (.int .i64) .un], f := fun k x y => laws_markIntS_o1.l4 k x.2.1 x.2.2.1 y.1 }] { c := fun _ => none, ms := [], sh := false } rfl 5000 ⟨⟨fun _ _ => rfl, fun k x y => by kernel_rfl⟩, trivial⟩ (fun k x y => by kernel_rfl)

/-! ### loop.example/g00076/laws.markChanRowS: function 98 -/
def laws_markChanRowS_o1.l4 : Nat → Int → Int → (List S119) → Option (Int × (List S119))
  | 0, _, _, _ => none
  | k + 1, x1, x5, h0 => if x5 < (h0.length : Int) then (if 0 ≤ x5 then (if x5 < (h0.length : Int) then ((let q1 : List S119 := h0.set x5.toNat (⟨x1, (rd_T119 h0 x5).f1, (rd_T119 h0 x5).f2, (rd_T119 h0 x5).f3⟩ : S119); if 0 ≤ x5 then (if x5 < (q1.length : Int) then ((let q2 : List S119 := q1.set x5.toNat (⟨(rd_T119 q1 x5).f0, (wrap64 (x1 + 1)), (rd_T119 q1 x5).f2, (rd_T119 q1 x5).f3⟩ : S119); if 0 ≤ x5 then (if x5 < (q2.length : Int) then ((let q3 : List S119 := q2.set x5.toNat (⟨(rd_T119 q2 x5).f0, (rd_T119 q2 x5).f1, (wrap64 ((wrap64 (x1 + 1)) + 1)), (rd_T119 q2 x5).f3⟩ : S119); if 0 ≤ x5 then (if x5 < (q3.length : Int) then ((let q4 : List S119 := q3.set x5.toNat (⟨(rd_T119 q3 x5).f0, (rd_T119 q3 x5).f1, (rd_T119 q3 x5).f2, (wrap64 ((wrap64 ((wrap64 (x1 + 1)) + 1)) + 1))⟩ : S119); laws_markChanRowS_o1.l4 k (wrap64 ((wrap64 ((wrap64 ((wrap64 (x1 + 1)) + 1)) + 1)) + 1)) (wrap64 (x5 + 1)) q4)) else none) else none)) else none) else none)) else none) else none)) else none) else none) else (some (x1, h0))
def laws_markChanRowS_o1.f (k : Nat) (a1 : Int) (h0 : List S119) : Option (Int × (List S119)) := laws_markChanRowS_o1.l4 k a1 0 h0
def laws_markChanRowS_o1.c : FnD := { f := 98, sh := false, ps := [.vc (.c (.own 0)), .c (.int .i64)], pb := [.arr T119 .un], vc := .c (.int .i64), bs := [.arr T119 .un], R := Int × (List S119), fn := fun k x y => laws_markChanRowS_o1.f k x.2.1 y.1, out := fun y => (y.1, (y.2, ())), inn := fun d => (d.1, d.2.1), inv := fun _ => rfl }
theorem laws_markChanRowS_o1.ok : laws_markChanRowS_o1.c.OK Tryz.prog :=
  FnD.of laws_markChanRowS_o1.c mix tok (fn := Tryz.f98) Tryz.func98 (by kernel_rfl) (fun _ _ => by kernel_rfl) (by kernel_rfl) (by kernel_rfl) [] trivial
    [{ lbl := 4, live := [(0, none), (1, none), (5, none)], ms := [], vs := [.c (.own 0), .c (.int .i64), .c (.int .i64)], bs := [.arr T119 .un], f := fun k x y => laws_markChanRowS_o1.l4 k x.2.1 x.2.2.1 y.1 }] { c := fun _ => none, ms := [], sh := false } rfl 5000 ⟨⟨fun _ _ => rfl, fun k x y => by kernel_rfl⟩, trivial⟩ (fun k x y => by kernel_rfl)

/-! ### loop.example/g00076/laws.markSlotS: function 99 -/
def laws_markSlotS_o1.l4 : Nat → Int → Int → (List S140) → Option (Int × (List S140))
  | 0, _, _, _ => none
  | k + 1, x1, x5, h0 => if x5 < (h0.length : Int) then (if 0 ≤ x5 then (if x5 < (h0.length : Int) then ((let q1 : List S140 := h0.set x5.toNat (⟨x1, (rd_T140 h0 x5).f1, (rd_T140 h0 x5).f2⟩ : S140); if 0 ≤ x5 then (if x5 < (q1.length : Int) then ((let q2 : List S140 := q1.set x5.toNat (⟨(rd_T140 q1 x5).f0, (wrap64 (x1 + 1)), (rd_T140 q1 x5).f2⟩ : S140); if 0 ≤ x5 then (if x5 < (q2.length : Int) then ((let q3 : List S140 := q2.set x5.toNat (⟨(rd_T140 q2 x5).f0, (rd_T140 q2 x5).f1, (wrap64 ((wrap64 (x1 + 1)) + 1))⟩ : S140); laws_markSlotS_o1.l4 k (wrap64 ((wrap64 ((wrap64 (x1 + 1)) + 1)) + 1)) (wrap64 (x5 + 1)) q3)) else none) else none)) else none) else none)) else none) else none) else (some (x1, h0))
def laws_markSlotS_o1.f (k : Nat) (a1 : Int) (h0 : List S140) : Option (Int × (List S140)) := laws_markSlotS_o1.l4 k a1 0 h0
def laws_markSlotS_o1.c : FnD := { f := 99, sh := false, ps := [.vc (.c (.own 0)), .c (.int .i64)], pb := [.arr T140 .un], vc := .c (.int .i64), bs := [.arr T140 .un], R := Int × (List S140), fn := fun k x y => laws_markSlotS_o1.f k x.2.1 y.1, out := fun y => (y.1, (y.2, ())), inn := fun d => (d.1, d.2.1), inv := fun _ => rfl }
theorem laws_markSlotS_o1.ok : laws_markSlotS_o1.c.OK Tryz.prog :=
  FnD.of laws_markSlotS_o1.c mix tok (fn := Tryz.f99) Tryz.func99 (by kernel_rfl) (fun _ _ => by kernel_rfl) (by kernel_rfl) (by kernel_rfl) [] trivial
    [{ lbl := 4, live := [(0, none), (1, none), (5, none)], ms := [], vs := [.c (.own 0), .c (.int .i64), .c (.int .i64)], bs := [.arr T140 .un], f := fun k x y => laws_markSlotS_o1.l4 k x.2.1 x.2.2.1 y.1 }] { c := fun _ => none, ms := [], sh := false } rfl 5000 ⟨⟨fun _ _ => rfl, fun k x y => by kernel_rfl⟩, trivial⟩ (fun k x y => by kernel_rfl)

/-! ### loop.example/g00076/laws.markTables: function 31 -/
def laws_markTables_o1.f (k : Nat) (a0_0 : Int) (a0_1 : Int) (a0_2 : Int) (a0_3 : Int) (a0_4 : Int) (a0_5 : Int) (a0_6 : Int) (a0_7 : Int) (a0_8 : Int) (a0_9 : Int) (a0_10 : Int) (a0_11 : Int) (a0_12 : Int) (a0_13 : Int) (a0_14 : Int) (a1 : Int) (h0 : List S128) (h1 : List Int) (h2 : List S119) (h3 : List S140) : Option (Int × (List S128) × (List Int) × (List S119) × (List S140)) := (laws_markPartRowS_o1.f k a1 h0).bind fun t1 => ((laws_markIntS_o1.f k t1.1 h1).bind fun t2 => ((laws_markChanRowS_o1.f k t2.1 h2).bind fun t3 => ((laws_markSlotS_o1.f k t3.1 h3).bind fun t4 => (some (t4.1, t1.2, t2.2, t3.2, t4.2)))))
def laws_markTables_o1.c : FnD := { f := 31, sh := false, ps := [.vc (.agg [.int .i64, .int .i64, .int .i64, .int .i64, .int .i64, .int .i64, .int .i64, .int .i64, .int .i64, .int .i64, .int .i64, .int .i64, .int .i64, .int .i64, .int .i64, .own 0, .own 1, .own 2, .own 3]), .c (.int .i64)], pb := [.arr T128 .un, .arr (.int .i64) .un, .arr T119 .un, .arr T140 .un], vc := .c (.int .i64), bs := [.arr T128 .un, .arr (.int .i64) .un, .arr T119 .un, .arr T140 .un], R := Int × (List S128) × (List Int) × (List S119) × (List S140), fn := fun k x y => laws_markTables_o1.f k x.1.1 x.1.2.1 x.1.2.2.1 x.1.2.2.2.1 x.1.2.2.2.2.1 x.1.2.2.2.2.2.1 x.1.2.2.2.2.2.2.1 x.1.2.2.2.2.2.2.2.1 x.1.2.2.2.2.2.2.2.2.1 x.1.2.2.2.2.2.2.2.2.2.1 x.1.2.2.2.2.2.2.2.2.2.2.1 x.1.2.2.2.2.2.2.2.2.2.2.2.1 x.1.2.2.2.2.2.2.2.2.2.2.2.2.1 x.1.2.2.2.2.2.2.2.2.2.2.2.2.2.1 x.1.2.2.2.2.2.2.2.2.2.2.2.2.2.2.1 x.2.1 y.1 y.2.1 y.2.2.1 y.2.2.2.1, out := fun y => (y.1, (y.2.1, y.2.2.1, y.2.2.2.1, y.2.2.2.2, ())), inn := fun d => (d.1, d.2.1, d.2.2.1, d.2.2.2.1, d.2.2.2.2.1), inv := fun _ => rfl }
theorem laws_markTables_o1.ok : laws_markTables_o1.c.OK Tryz.prog :=
  FnD.of laws_markTables_o1.c mix tok (fn := Tryz.f31) Tryz.func31 (by kernel_rfl) (fun _ _ => by kernel_rfl) (by kernel_rfl) (by kernel_rfl) [laws_markPartRowS_o1.c, laws_markIntS_o1.c, laws_markChanRowS_o1.c, laws_markSlotS_o1.c] ⟨laws_markPartRowS_o1.ok, ⟨laws_markIntS_o1.ok, ⟨laws_markChanRowS_o1.ok, ⟨laws_markSlotS_o1.ok, trivial⟩⟩⟩⟩
    [] { c := fun _ => none, ms := [], sh := false } rfl 5000 trivial (fun k x y => by kernel_rfl)

/-! ### loop.example/g00076/laws.heldIntS: function 33 -/
def laws_heldIntS.l4 : Nat → (List Int) → Int → Int → Option (Int)
  | 0, _, _, _ => none
  | k + 1, x0, x1, x5 => if x5 < (x0.length : Int) then (if 0 ≤ x5 then (if x5 < (x0.length : Int) then (if (rd x0 x5) = x1 then (laws_heldIntS.l4 k x0 (wrap64 (x1 + 1)) (wrap64 (x5 + 1))) else (some (-1))) else none) else none) else (some x1)
def laws_heldIntS.f (k : Nat) (a0 : List Int) (a1 : Int) : Option (Int) := laws_heldIntS.l4 k a0 a1 0
def laws_heldIntS.c : FnD := { f := 33, sh := false, ps := [.c (.sl (.int .i64)), .c (.int .i64)], pb := [], vc := .c (.int .i64), bs := [], R := Int, fn := fun k x y => laws_heldIntS.f k x.1 x.2.1, out := fun y => (y, ()), inn := fun d => d.1, inv := fun _ => rfl }
theorem laws_heldIntS.ok : laws_heldIntS.c.OK Tryz.prog :=
  FnD.of laws_heldIntS.c mix tok (fn := Tryz.f33) Tryz.func33 (by kernel_rfl) (fun _ _ => by kernel_rfl) (by kernel_rfl) (by kernel_rfl) [] trivial
    [{ lbl := 4, live := [(0, none), (1, none), (5, none)], ms := [], vs := [.c (.sl false (.int .i64)), .c (.int .i64), .c (.int .i64)], bs := [], f := fun k x y => laws_heldIntS.l4 k x.1 x.2.1 x.2.2.1 }] { c := fun _ => none, ms := [], sh := false } rfl 5000 ⟨⟨fun _ _ => rfl, fun k x y => by kernel_rfl⟩, trivial⟩ (fun k x y => by kernel_rfl)

/-! ### loop.example/g00076/laws.FnExactJoined: function 5 -/
def laws_FnExactJoined.f (k : Nat) (a0 : S31) (a1 : Int) : Option (Bool) := (laws_szTables.f k a0 1048576).bind fun t1 => (if t1 < 0 then (some true) else ((laws_toTables.f k a0).bind fun t2 => ((spec_Joined.f k t2 a1).bind fun t3 => ((laws_toTables.f k a0).bind fun t4 => ((impl_Joined.f k t4 a1).bind fun t5 => ((laws_eqIntS.f k t5 t3).bind fun t6 => (if t6 = true then ((laws_toTables.f k a0).bind fun t7 => ((laws_eqTables.f k t4 t7).bind fun t8 => (if t8 = true then ((laws_markTables_o1.f k t4.f0 t4.f1.f0 t4.f1.f1 t4.f1.f2 t4.f2 t4.f3.f0 t4.f3.f1 t4.f3.f2 t4.f3.f3 t4.f3.f4 t4.f3.f5 t4.f3.f6 t4.f4 t4.f5 t4.f6 1 t4.f7 t4.f8 t4.f9 t4.f10).bind fun t9 => (if t9.1 < 0 then (some false) else ((laws_eqIntS.f k t5 t3).bind fun t10 => (if t10 = true then ((laws_markIntS_o1.f k 1 t5).bind fun t11 => ((laws_heldIntS.f k t11.2 1).bind fun t12 => (if t12 < 0 then (some false) else (if t12 = t11.1 then ((laws_toTables.f k a0).bind fun t13 => ((impl_Joined.f k t13 a1).bind fun t14 => ((laws_eqIntS.f k t14 t3).bind fun t15 => (if t15 = true then ((laws_heldIntS.f k t11.2 1).bind fun t16 => (if t16 < 0 then (some false) else (if t16 = t11.1 then (some true) else (some false)))) else (some false))))) else (some false))))) else (some false))))) else (some false)))) else (some false))))))))
def laws_FnExactJoined.c : FnD := { f := 5, sh := false, ps := [.agg T31, .c (.int .i64)], pb := [], vc := .c (.bool), bs := [], R := Bool, fn := fun k x y => laws_FnExactJoined.f k x.1 x.2.1, out := fun y => (y, ()), inn := fun d => d.1, inv := fun _ => rfl }
theorem laws_FnExactJoined.ok : laws_FnExactJoined.c.OK Tryz.prog :=
  FnD.of laws_FnExactJoined.c mix tok (fn := Tryz.f5) Tryz.func5 (by kernel_rfl) (fun _ _ => by kernel_rfl) (by kernel_rfl) (by kernel_rfl) [laws_markTables_o1.c, laws_markIntS_o1.c, laws_szTables.c, laws_toTables.c, spec_Joined.c, impl_Joined.c, laws_eqIntS.c, laws_eqTables.c, laws_heldIntS.c] ⟨laws_markTables_o1.ok, ⟨laws_markIntS_o1.ok, ⟨laws_szTables.ok, ⟨laws_toTables.ok, ⟨spec_Joined.ok, ⟨impl_Joined.ok, ⟨laws_eqIntS.ok, ⟨laws_eqTables.ok, ⟨laws_heldIntS.ok, trivial⟩⟩⟩⟩⟩⟩⟩⟩⟩
    [] { c := fun _ => none, ms := [], sh := false } rfl 5000 trivial (fun k x y => by kernel_rfl)

/-! ### loop.example/g00076/laws.szSpanS: function 16 -/
def laws_szSpanS.f (a0 : List S106) (a1 : Int) : Option (Int) := if (wrap64 (a1 - (a0.length : Int))) < 0 then (some (-1)) else (some (wrap64 (a1 - (a0.length : Int))))
def laws_szSpanS.c : FnD := { f := 16, sh := false, ps := [.c (.sl T106), .c (.int .i64)], pb := [], vc := .c (.int .i64), bs := [], R := Int, fn := fun _ x y => laws_szSpanS.f x.1 x.2.1, out := fun y => (y, ()), inn := fun d => d.1, inv := fun _ => rfl }
theorem laws_szSpanS.ok : laws_szSpanS.c.OK Tryz.prog :=
  FnD.of laws_szSpanS.c mix tok (fn := Tryz.f16) Tryz.func16 (by kernel_rfl) (fun _ _ => by kernel_rfl) (by kernel_rfl) (by kernel_rfl) [] trivial
    [] { c := fun _ => none, ms := [], sh := false } rfl 5000 trivial (fun k x y => by kernel_rfl)

/-! ### loop.example/g00076/laws.toSpan: function 79 -/
def laws_toSpan.f (a0 : S106) : Option (S96) := some (⟨a0.f0, a0.f1, a0.f2, a0.f3⟩ : S96)
def laws_toSpan.c : FnD := { f := 79, sh := false, ps := [.agg T106], pb := [], vc := .agg [.int .i64, .int .i64, .int .i64, .int .i64], bs := [], R := S96, fn := fun _ x y => laws_toSpan.f x.1, out := fun y => ((y.1, y.2.1, y.2.2.1, y.2.2.2, ()), ()), inn := fun d => (d.1.1, d.1.2.1, d.1.2.2.1, d.1.2.2.2.1), inv := fun _ => rfl }
theorem laws_toSpan.ok : laws_toSpan.c.OK Tryz.prog :=
  FnD.of laws_toSpan.c mix tok (fn := Tryz.f79) Tryz.func79 (by kernel_rfl) (fun _ _ => by kernel_rfl) (by kernel_rfl) (by kernel_rfl) [] trivial
    [] { c := fun _ => none, ms := [], sh := false } rfl 5000 trivial (fun k x y => by kernel_rfl)

/-! ### loop.example/g00076/laws.toSpanS: function 19 -/
def laws_toSpanS.l6 : Nat → (List S106) → Int → (List S96) → Option ((List S96))
  | 0, _, _, _ => none
  | k + 1, x0, x4, h0 => if x4 < (x0.length : Int) then (if 0 ≤ x4 then (if x4 < (x0.length : Int) then ((laws_toSpan.f (rd_T106 x0 x4)).bind fun t1 => (if 0 ≤ x4 then (if x4 < (h0.length : Int) then (laws_toSpanS.l6 k x0 (wrap64 (x4 + 1)) (h0.set x4.toNat t1)) else none) else none)) else none) else none) else (some h0)
def laws_toSpanS.f (k : Nat) (a0 : List S106) : Option ((List S96)) := if 0 ≤ (a0.length : Int) then (if (a0.length : Int) ≤ (a0.length : Int) then (if (a0.length : Int).toNat ≤ 8796093022208 then (laws_toSpanS.l6 k a0 0 (List.replicate (a0.length : Int).toNat z96)) else none) else none) else none
def laws_toSpanS.c : FnD := { f := 19, sh := false, ps := [.c (.sl T106)], pb := [], vc := .c (.own 0), bs := [.arr T96 .un], R := (List S96), fn := fun k x y => laws_toSpanS.f k x.1, out := fun y => ((), (y, ())), inn := fun d => d.2.1, inv := fun _ => rfl }
theorem laws_toSpanS.ok : laws_toSpanS.c.OK Tryz.prog :=
  FnD.of laws_toSpanS.c mix tok (fn := Tryz.f19) Tryz.func19 (by kernel_rfl) (fun _ _ => by kernel_rfl) (by kernel_rfl) (by kernel_rfl) [laws_toSpan.c] ⟨laws_toSpan.ok, trivial⟩
    [{ lbl := 6, live := [(0, none), (3, none), (4, none)], ms := [], vs := [.c (.sl false T106), .c (.own 0), .c (.int .i64)], bs := [.arr T96 .un], f := fun k x y => laws_toSpanS.l6 k x.1 x.2.2.1 y.1 }] { c := fun _ => none, ms := [], sh := false } rfl 5000 ⟨⟨fun _ _ => rfl, fun k x y => by kernel_rfl⟩, trivial⟩ (fun k x y => by kernel_rfl)

/-! ### loop.example/g00076/spec.l15Ok: function 107 -/
def spec_l15Ok.f (k : Nat) (a0 : S42) (a1 : Int) : Option (Bool) := (spec_Sound.f k a0).bind fun t1 => (if t1 = true then ((spec_l01In.f a1 0 50000).bind fun t2 => (some t2)) else (some false))
def spec_l15Ok.c : FnD := { f := 107, sh := false, ps := [.agg T42, .c (.int .i64)], pb := [], vc := .c (.bool), bs := [], R := Bool, fn := fun k x y => spec_l15Ok.f k x.1 x.2.1, out := fun y => (y, ()), inn := fun d => d.1, inv := fun _ => rfl }
theorem spec_l15Ok.ok : spec_l15Ok.c.OK Tryz.prog :=
  FnD.of spec_l15Ok.c mix tok (fn := Tryz.f107) Tryz.func107 (by kernel_rfl) (fun _ _ => by kernel_rfl) (by kernel_rfl) (by kernel_rfl) [spec_Sound.c, spec_l01In.c] ⟨spec_Sound.ok, ⟨spec_l01In.ok, trivial⟩⟩
    [] { c := fun _ => none, ms := [], sh := false } rfl 5000 trivial (fun k x y => by kernel_rfl)

/-! ### loop.example/g00076/spec.l15Slot: function 108 -/
def spec_l15Slot.l6 : Nat → Int → Int → S42 → Option (Int)
  | 0, _, _, _ => none
  | k + 1, x5, x6, y0 => if x6 < (y0.f10.length : Int) then (if 0 ≤ x6 then (if x6 < (y0.f10.length : Int) then (if x5 ≥ (rd_T140 y0.f10 x6).f1 then (if 0 ≤ x6 then (if x6 < (y0.f10.length : Int) then (if 0 ≤ x6 then (if x6 < (y0.f10.length : Int) then (if x5 < (wrap64 (((rd_T140 y0.f10 x6).f1) + ((rd_T140 y0.f10 x6).f2))) then (some x6) else (spec_l15Slot.l6 k x5 (wrap64 (x6 + 1)) y0)) else none) else none) else none) else none) else (spec_l15Slot.l6 k x5 (wrap64 (x6 + 1)) y0)) else none) else none) else (some (-1))
def spec_l15Slot.f (k : Nat) (a0 : S42) (a1 : Int) : Option (Int) := if a0.f6 = 0 then none else (spec_l15Slot.l6 k (Int.tmod a1 a0.f6) 0 a0)
def spec_l15Slot.c : FnD := { f := 108, sh := false, ps := [.agg T42, .c (.int .i64)], pb := [], vc := .c (.int .i64), bs := [], R := Int, fn := fun k x y => spec_l15Slot.f k x.1 x.2.1, out := fun y => (y, ()), inn := fun d => d.1, inv := fun _ => rfl }
theorem spec_l15Slot.ok : spec_l15Slot.c.OK Tryz.prog :=
  FnD.of spec_l15Slot.c mix tok (fn := Tryz.f108) Tryz.func108 (by kernel_rfl) (fun _ _ => by kernel_rfl) (by kernel_rfl) (by kernel_rfl) [] trivial
    [{ lbl := 6, live := [(2, none), (5, none), (6, none)], ms := [], vs := [.c (.ptr 0 0), .c (.int .i64), .c (.int .i64)], bs := [.cells 42 [.int .i64, .int .i64, .int .i64, .int .i64, .int .i64, .int .i64, .int .i64, .int .i64, .int .i64, .int .i64, .int .i64, .int .i64, .int .i64, .int .i64, .int .i64, .sl false T128, .sl false (.int .i64), .sl false T119, .sl false T140]], f := fun k x y => spec_l15Slot.l6 k x.2.1 x.2.2.1 (y.1.1, (y.1.2.1, y.1.2.2.1, y.1.2.2.2.1), y.1.2.2.2.2.1, (y.1.2.2.2.2.2.1, y.1.2.2.2.2.2.2.1, y.1.2.2.2.2.2.2.2.1, y.1.2.2.2.2.2.2.2.2.1, y.1.2.2.2.2.2.2.2.2.2.1, y.1.2.2.2.2.2.2.2.2.2.2.1, y.1.2.2.2.2.2.2.2.2.2.2.2.1), y.1.2.2.2.2.2.2.2.2.2.2.2.2.1, y.1.2.2.2.2.2.2.2.2.2.2.2.2.2.1, y.1.2.2.2.2.2.2.2.2.2.2.2.2.2.2.1, y.1.2.2.2.2.2.2.2.2.2.2.2.2.2.2.2.1, y.1.2.2.2.2.2.2.2.2.2.2.2.2.2.2.2.2.1, y.1.2.2.2.2.2.2.2.2.2.2.2.2.2.2.2.2.2.1, y.1.2.2.2.2.2.2.2.2.2.2.2.2.2.2.2.2.2.2.1) }] { c := fun _ => none, ms := [], sh := false } rfl 5000 ⟨⟨fun _ _ => rfl, fun k x y => by kernel_rfl⟩, trivial⟩ (fun k x y => by kernel_rfl)

/-! ### loop.example/g00076/spec.l15Phase: function 132 -/
def spec_l15Phase.f (k : Nat) (a0 : S42) (a1 : Int) : Option (Int) := (spec_l15Slot.f k a0 a1).bind fun t1 => (if t1 < 0 then (some 0) else (if a0.f6 = 0 then none else (if 0 ≤ t1 then (if t1 < (a0.f10.length : Int) then (if (wrap64 ((Int.tmod a1 a0.f6) - ((rd_T140 a0.f10 t1).f1))) < a0.f4 then (some 1) else (if 0 ≤ t1 then (if t1 < (a0.f10.length : Int) then (if (wrap64 ((Int.tmod a1 a0.f6) - ((rd_T140 a0.f10 t1).f1))) ≥ (wrap64 (((rd_T140 a0.f10 t1).f2) - a0.f5)) then (some 3) else (some 2)) else none) else none)) else none) else none)))
def spec_l15Phase.c : FnD := { f := 132, sh := false, ps := [.agg T42, .c (.int .i64)], pb := [], vc := .c (.int .i64), bs := [], R := Int, fn := fun k x y => spec_l15Phase.f k x.1 x.2.1, out := fun y => (y, ()), inn := fun d => d.1, inv := fun _ => rfl }
theorem spec_l15Phase.ok : spec_l15Phase.c.OK Tryz.prog :=
  FnD.of spec_l15Phase.c mix tok (fn := Tryz.f132) Tryz.func132 (by kernel_rfl) (fun _ _ => by kernel_rfl) (by kernel_rfl) (by kernel_rfl) [spec_l15Slot.c] ⟨spec_l15Slot.ok, trivial⟩
    [] { c := fun _ => none, ms := [], sh := false } rfl 5000 trivial (fun k x y => by kernel_rfl)

/-! ### loop.example/g00076/spec.l24Who: function 73 -/
def spec_l24Who.f (k : Nat) (a0 : S42) (a1 : Int) : Option (Int × Int) := (spec_l15Slot.f k a0 a1).bind fun t1 => (if t1 < 0 then (some (0, (-1))) else (if 0 ≤ t1 then (if t1 < (a0.f10.length : Int) then ((spec_l15Phase.f k a0 a1).bind fun t2 => (some (t2, (rd_T140 a0.f10 t1).f0))) else none) else none))
def spec_l24Who.c : FnD := { f := 73, sh := false, ps := [.agg T42, .c (.int .i64)], pb := [], vc := .tup [(false, [.int .i64]), (false, [.int .i64])], bs := [], R := Int × Int, fn := fun k x y => spec_l24Who.f k x.1 x.2.1, out := fun y => (((y.1, ()), (y.2, ()), ()), ()), inn := fun d => (d.1.1.1, d.1.2.1.1), inv := fun _ => rfl }
theorem spec_l24Who.ok : spec_l24Who.c.OK Tryz.prog :=
  FnD.of spec_l24Who.c mix tok (fn := Tryz.f73) Tryz.func73 (by kernel_rfl) (fun _ _ => by kernel_rfl) (by kernel_rfl) (by kernel_rfl) [spec_l15Slot.c, spec_l15Phase.c] ⟨spec_l15Slot.ok, ⟨spec_l15Phase.ok, trivial⟩⟩
    [] { c := fun _ => none, ms := [], sh := false } rfl 5000 trivial (fun k x y => by kernel_rfl)

/-! ### loop.example/g00076/spec.Spans: function 44 -/
def spec_Spans.l10 : Nat → Int → Int → S42 → (List S96) → Option ((List S96))
  | 0, _, _, _, _ => none
  | k + 1, x2, x8, y0, h1 => if x8 < x2 then ((spec_l24Who.f k y0 x8).bind fun t4 => (if (h1.length : Int) > 0 then (if y0.f6 = 0 then none else (if (Int.tmod x8 y0.f6) = 0 then (if h1.length + ([(⟨x8, (wrap64 (x8 + 1)), t4.2, t4.1⟩ : S96)] : List S96).length < 4398046511104 then (spec_Spans.l10 k x2 (wrap64 (x8 + 1)) y0 (h1 ++ ([(⟨x8, (wrap64 (x8 + 1)), t4.2, t4.1⟩ : S96)] : List S96))) else none) else (if 0 ≤ (wrap64 ((h1.length : Int) - 1)) then (if (wrap64 ((h1.length : Int) - 1)) < (h1.length : Int) then (if (rd_T96 h1 (wrap64 ((h1.length : Int) - 1))).f3 = t4.1 then ((spec_l15Slot.f k y0 x8).bind fun t5 => ((spec_l15Slot.f k y0 (wrap64 (x8 - 1))).bind fun t6 => (if t5 = t6 then (if 0 ≤ (wrap64 ((h1.length : Int) - 1)) then (if (wrap64 ((h1.length : Int) - 1)) < (h1.length : Int) then ((let q7 : List S96 := h1.set (wrap64 ((h1.length : Int) - 1)).toNat (⟨(rd_T96 h1 (wrap64 ((h1.length : Int) - 1))).f0, (wrap64 (x8 + 1)), (rd_T96 h1 (wrap64 ((h1.length : Int) - 1))).f2, (rd_T96 h1 (wrap64 ((h1.length : Int) - 1))).f3⟩ : S96); spec_Spans.l10 k x2 (wrap64 (x8 + 1)) y0 q7)) else none) else none) else (if h1.length + ([(⟨x8, (wrap64 (x8 + 1)), t4.2, t4.1⟩ : S96)] : List S96).length < 4398046511104 then (spec_Spans.l10 k x2 (wrap64 (x8 + 1)) y0 (h1 ++ ([(⟨x8, (wrap64 (x8 + 1)), t4.2, t4.1⟩ : S96)] : List S96))) else none)))) else (if h1.length + ([(⟨x8, (wrap64 (x8 + 1)), t4.2, t4.1⟩ : S96)] : List S96).length < 4398046511104 then (spec_Spans.l10 k x2 (wrap64 (x8 + 1)) y0 (h1 ++ ([(⟨x8, (wrap64 (x8 + 1)), t4.2, t4.1⟩ : S96)] : List S96))) else none)) else none) else none))) else (if h1.length + ([(⟨x8, (wrap64 (x8 + 1)), t4.2, t4.1⟩ : S96)] : List S96).length < 4398046511104 then (spec_Spans.l10 k x2 (wrap64 (x8 + 1)) y0 (h1 ++ ([(⟨x8, (wrap64 (x8 + 1)), t4.2, t4.1⟩ : S96)] : List S96))) else none))) else (some h1)
def spec_Spans.f (k : Nat) (a0 : S42) (a1 : Int) (a2 : Int) : Option ((List S96)) := (spec_l15Ok.f k a0 a1).bind fun t1 => (if t1 = true then ((spec_l01In.f a2 0 50000).bind fun t2 => (if t2 = true then ((spec_l01In.f (wrap64 (a2 - a1)) 1 5000).bind fun t3 => (if t3 = true then (spec_Spans.l10 k a2 a1 a0 ([] : List S96)) else (some ([] : List S96)))) else (some ([] : List S96)))) else (some ([] : List S96)))
def spec_Spans.c : FnD := { f := 44, sh := false, ps := [.agg T42, .c (.int .i64), .c (.int .i64)], pb := [], vc := .c (.own 0), bs := [.arr T96 .un], R := (List S96), fn := fun k x y => spec_Spans.f k x.1 x.2.1 x.2.2.1, out := fun y => ((), (y, ())), inn := fun d => d.2.1, inv := fun _ => rfl }
theorem spec_Spans.ok : spec_Spans.c.OK Tryz.prog :=
  FnD.of spec_Spans.c mix tok (fn := Tryz.f44) Tryz.func44 (by kernel_rfl) (fun _ _ => by kernel_rfl) (by kernel_rfl) (by kernel_rfl) [spec_l15Ok.c, spec_l01In.c, spec_l24Who.c, spec_l15Slot.c] ⟨spec_l15Ok.ok, ⟨spec_l01In.ok, ⟨spec_l24Who.ok, ⟨spec_l15Slot.ok, trivial⟩⟩⟩⟩
    [{ lbl := 10, live := [(2, none), (3, none), (7, none), (8, none)], ms := [], vs := [.c (.int .i64), .c (.ptr 0 0), .c (.own 1), .c (.int .i64)], bs := [.cells 42 [.int .i64, .int .i64, .int .i64, .int .i64, .int .i64, .int .i64, .int .i64, .int .i64, .int .i64, .int .i64, .int .i64, .int .i64, .int .i64, .int .i64, .int .i64, .sl false T128, .sl false (.int .i64), .sl false T119, .sl false T140], .arr T96 .un], f := fun k x y => spec_Spans.l10 k x.1 x.2.2.2.1 (y.1.1, (y.1.2.1, y.1.2.2.1, y.1.2.2.2.1), y.1.2.2.2.2.1, (y.1.2.2.2.2.2.1, y.1.2.2.2.2.2.2.1, y.1.2.2.2.2.2.2.2.1, y.1.2.2.2.2.2.2.2.2.1, y.1.2.2.2.2.2.2.2.2.2.1, y.1.2.2.2.2.2.2.2.2.2.2.1, y.1.2.2.2.2.2.2.2.2.2.2.2.1), y.1.2.2.2.2.2.2.2.2.2.2.2.2.1, y.1.2.2.2.2.2.2.2.2.2.2.2.2.2.1, y.1.2.2.2.2.2.2.2.2.2.2.2.2.2.2.1, y.1.2.2.2.2.2.2.2.2.2.2.2.2.2.2.2.1, y.1.2.2.2.2.2.2.2.2.2.2.2.2.2.2.2.2.1, y.1.2.2.2.2.2.2.2.2.2.2.2.2.2.2.2.2.2.1, y.1.2.2.2.2.2.2.2.2.2.2.2.2.2.2.2.2.2.2.1) y.2.1 }] { c := fun _ => none, ms := [], sh := false } rfl 5000 ⟨⟨fun _ _ => rfl, fun k x y => by kernel_rfl⟩, trivial⟩ (fun k x y => by kernel_rfl)

/-! ### loop.example/g00076/spec.SpansOk: function 34 -/
def spec_SpansOk.l10 : Nat → (List S96) → Int → (List S96) → Option (Bool)
  | 0, _, _, _ => none
  | k + 1, x3, x10, h0 => if x10 < (h0.length : Int) then (if 0 ≤ x10 then (if x10 < (h0.length : Int) then (if 0 ≤ x10 then (if x10 < (x3.length : Int) then (if (rd_T96 h0 x10) = (rd_T96 x3 x10) then (spec_SpansOk.l10 k x3 (wrap64 (x10 + 1)) h0) else (some false)) else none) else none) else none) else none) else (some true)
def spec_SpansOk.f (k : Nat) (a0 : S42) (a1 : Int) (a2 : Int) (a3 : List S96) : Option (Bool) := (spec_Spans.f k a0 a1 a2).bind fun t1 => (if (t1.length : Int) = 0 then (some false) else (if (t1.length : Int) = (a3.length : Int) then (spec_SpansOk.l10 k a3 0 t1) else (some false)))
def spec_SpansOk.c : FnD := { f := 34, sh := false, ps := [.agg T42, .c (.int .i64), .c (.int .i64), .c (.sl T96)], pb := [], vc := .c (.bool), bs := [], R := Bool, fn := fun k x y => spec_SpansOk.f k x.1 x.2.1 x.2.2.1 x.2.2.2.1, out := fun y => (y, ()), inn := fun d => d.1, inv := fun _ => rfl }
theorem spec_SpansOk.ok : spec_SpansOk.c.OK Tryz.prog :=
  FnD.of spec_SpansOk.c mix tok (fn := Tryz.f34) Tryz.func34 (by kernel_rfl) (fun _ _ => by kernel_rfl) (by kernel_rfl) (by kernel_rfl) [spec_Spans.c] ⟨spec_Spans.ok, trivial⟩
    [{ lbl := 10, live := [(3, none), (9, none), (10, none)], ms := [], vs := [.c (.sl false T96), .c (.own 0), .c (.int .i64)], bs := [.arr T96 .un], f := fun k x y => spec_SpansOk.l10 k x.1 x.2.2.1 y.1 }] { c := fun _ => none, ms := [], sh := false } rfl 5000 ⟨⟨fun _ _ => rfl, fun k x y => by kernel_rfl⟩, trivial⟩ (fun k x y => by kernel_rfl)

/-! ### loop.example/g00076/impl.isCycle: function 109 -/
def impl_isCycle.f (a0 : Int) : Option (Bool) := (impl_within.f a0 0 50000).bind fun t1 => (some t1)
def impl_isCycle.c : FnD := { f := 109, sh := false, ps := [.c (.int .i64)], pb := [], vc := .c (.bool), bs := [], R := Bool, fn := fun _ x y => impl_isCycle.f x.1, out := fun y => (y, ()), inn := fun d => d.1, inv := fun _ => rfl }
theorem impl_isCycle.ok : impl_isCycle.c.OK Tryz.prog :=
  FnD.of impl_isCycle.c mix tok (fn := Tryz.f109) Tryz.func109 (by kernel_rfl) (fun _ _ => by kernel_rfl) (by kernel_rfl) (by kernel_rfl) [impl_within.c] ⟨impl_within.ok, trivial⟩
    [] { c := fun _ => none, ms := [], sh := false } rfl 5000 trivial (fun k x y => by kernel_rfl)

end Go.Proofs.YtgagpmiooeoodaaGreat.PTwo
