/- Go functions as Lean functions, each with its contract. -/
import Derived.Test.YtmdnpaekamkknaaDoorQHxx0
set_option linter.unusedVariables false
set_option maxRecDepth 100000
namespace Go.Proofs.YtmdnpaekamkknaaDoor.PHx
open Go Go.Proofs Go.RowKit Go.Proofs.YtmdnpaekamkknaaDoor.V
noncomputable section
/-! ### loop.example/g00076/impl.hexWord: function 32 -/
def impl_hexWord.l6 : Nat → Int → Int → (List Int) → Option (ByteArray)
  | 0, _, _, _ => none
  | k + 1, x0, x4, h0 => if x4 ≥ 0 then (if 0 ≤ (bitAnd .u32 x0 15) then (if (bitAnd .u32 x0 15) < ((ByteArray.mk #[48, 49, 50, 51, 52, 53, 54, 55, 56, 57, 97, 98, 99, 100, 101, 102]).size : Int) then (if 0 ≤ x4 then (if x4 < (h0.length : Int) then (impl_hexWord.l6 k (shr .u32 x0 4) (wrap64 (x4 - 1)) (h0.set x4.toNat (bt (ByteArray.mk #[48, 49, 50, 51, 52, 53, 54, 55, 56, 57, 97, 98, 99, 100, 101, 102]) (bitAnd .u32 x0 15)))) else none) else none) else none) else none) else (some (strOf h0))
def impl_hexWord.f (k : Nat) (a0 : Int) : Option (ByteArray) := impl_hexWord.l6 k a0 7 (List.replicate (8 : Int).toNat 0)
def impl_hexWord.c : FnD := { f := 32, sh := false, ps := [.c (.int .u32)], pb := [], vc := .c (.str), bs := [], R := ByteArray, fn := fun k x y => impl_hexWord.f k x.1, out := fun y => (y, ()), inn := fun d => d.1, inv := fun _ => rfl }
theorem impl_hexWord.ok : impl_hexWord.c.OK Tryd.prog :=
  FnD.of impl_hexWord.c mix tok (fn := Tryd.f32) Tryd.func32 (by kernel_rfl) (fun _ _ => by kernel_rfl) (by kernel_rfl) (by kernel_rfl) [] trivial
    [{ lbl := 6, live := [(0, none), (3, none), (4, none)], ms := [], vs := [.c (.int .u32), .c (.own 0), .c (.int .i64)], bs := [.arr (.int .u8) .un], f := fun k x y => impl_hexWord.l6 k x.1 x.2.2.1 y.1 }] { c := fun _ => none, cc := [], ms := [], tn := [], sh := false, fm := [] } rfl 5000 ⟨⟨fun _ _ => rfl, fun k x y => by kernel_rfl⟩, trivial⟩ (fun k x y => by kernel_rfl)

end
end Go.Proofs.YtmdnpaekamkknaaDoor.PHx
