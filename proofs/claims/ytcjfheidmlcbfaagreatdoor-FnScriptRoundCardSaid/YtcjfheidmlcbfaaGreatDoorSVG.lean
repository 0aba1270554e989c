/- strconv.Itoa, by hand: the shelf's contract in the interpreter's terms. -/
import Derived.Test.YtcjfheidmlcbfaaGreatDoorChecked
import Derived.Test.YtcjfheidmlcbfaaGreatDoorSVL
import Derived.Test.YtcjfheidmlcbfaaGreatDoorSSh1
import Derived.Lib.AppendIntMem
set_option linter.unusedVariables false
set_option linter.unusedSimpArgs false
set_option linter.unusedSectionVars false
namespace Go.Proofs.YtcjfheidmlcbfaaGreatDoor.V
open Go Go.Proofs Go.RowKit Go.Lib Go.Shelf

/-- A call that makes memory alone and hands back a string. -/
theorem ok_str {C : Cx} (hH : HeapR C) (hHe : C.H = []) {w' : World} (hb : Below C.w.heap.size C.w w') (s : ByteArray) :
    ∃ C1 : Cx, C1.w = w' ∧ C1.H = [] ∧ Con false C C1 ∧ HeapR C1 ∧ AVR C1 (.c (.str s)) (.string s) := by
  obtain ⟨e3, e4, e5⟩ := hH.world hb (C' := { C with w := w' }) rfl
  have hfb : ({ C with w := w' } : Cx).H.all freshB = true := by show C.H.all freshB = true; rw [hHe]; rfl
  refine ⟨({ C with w := w' } : Cx).frs, rfl, hHe, ⟨rfl, rfl, e5.chg, fun g p hh => .inr ?_, e3.len, e3.blk⟩, e4.frs hfb, rfl⟩
  have := hh.2
  unfold Cx.Own at *
  exact this

def itoaF (n : Int) : Option ByteArray := if -9223372036854775808 ≤ n then (if n ≤ 9223372036854775807 then some ⟨(Lib.itoa n).toArray⟩ else none) else none
def itoaC : FnD := { f := 146, sh := false, ps := [.c (.int .i64)], pb := [], vc := .c (.str), bs := [], R := ByteArray, fn := fun k x y => itoaF x.1, out := fun y => (y, ()), inn := fun d => d.1, inv := fun _ => rfl }
theorem itoaC_ok : itoaC.OK Tryz.prog := by
  intro k x y z hz
  obtain ⟨n, x1⟩ := x
  change itoaF n = some z at hz
  unfold itoaF at hz
  split at hz
  case isFalse => cases hz
  rename_i h0
  split at hz
  case isFalse => cases hz
  rename_i h1
  cases hz
  refine ⟨fun _ _ => by kernel_rfl, fun C us hH hB hHe hal => ?_⟩
  have hHe : C.H = [] := hHe
  obtain ⟨us⟩ := us
  obtain ⟨v, rfl, hv⟩ : ∃ v, us = [v] ∧ v = .int .i64 n := by
    match us, hal with
    | [v], h => exact ⟨v, rfl, h.1⟩
  subst hv
  have htab : Lib.TabIs Tryz.prog C.w "internal/strconv.uint64pow10" .u64 Lib.pow10Tab :=
    var_of_globAt (g := 6) (l := Lib.pow10Tab.map fun z => Value.int .u64 z) (by kernel_rfl) (hH.gl (6, fun l => l = Glob.internal_strconv_uint64pow10) (by unfold Glob.tab; simp)).1
  refine Calls.mono (Any.strconv_Itoa Tryz.lay171 n h0 h1 C.w htab) fun e w' he => ?_
  obtain ⟨rfl, q, os, rfl⟩ := he
  obtain ⟨C1, z1, z2, z3, z4, z5⟩ := ok_str hH hHe (below_grow C.w.heap.size C.w (Nat.le_refl _) q os) ⟨(Lib.itoa n).toArray⟩
  exact ⟨_, C1, rfl, z1, z2, z3, z4, z5⟩

end Go.Proofs.YtcjfheidmlcbfaaGreatDoor.V
