/- strings.Split, by hand: the shelf's contract in the interpreter's terms. -/
import Derived.Test.YtcjfheidmlcbfaaGreatDoorChecked
import Derived.Test.YtcjfheidmlcbfaaGreatDoorSVL
import Derived.Test.YtcjfheidmlcbfaaGreatDoorSSh2
set_option linter.unusedVariables false
set_option linter.unusedSimpArgs false
set_option linter.unusedSectionVars false
namespace Go.Proofs.YtcjfheidmlcbfaaGreatDoor.V
open Go Go.Proofs Go.RowKit Go.Shelf

def splitF (s sep : ByteArray) : Option (List ByteArray) := if s.size < 4294967281 then (if 1 ≤ sep.size then some (Lib.splitB sep 0 (Lib.countB s sep) s) else none) else none
def splitC : FnD := { f := 40, sh := false, ps := [.c (.str), .c (.str)], pb := [], vc := .c (.own 0), bs := [.arr .str .fr], R := List ByteArray, fn := fun k x y => splitF x.1 x.2.1, out := fun y => ((), (y, ())), inn := fun d => d.2.1, inv := fun _ => rfl }
theorem splitC_ok : splitC.OK Tryz.prog := by
  intro k x y z hz
  obtain ⟨s, sep, x1⟩ := x
  change splitF s sep = some z at hz
  unfold splitF at hz
  split at hz
  case isFalse => cases hz
  rename_i h0
  split at hz
  case isFalse => cases hz
  rename_i h1
  cases hz
  refine ⟨fun _ _ => by kernel_rfl, fun C us hH hB hHe hal => ?_⟩
  have hHe : C.H = [] := hHe
  obtain ⟨us⟩ := us
  obtain ⟨v, u, rfl, hv, hu⟩ : ∃ v u, us = [v, u] ∧ v = .string s ∧ u = .string sep := by
    match us, hal with
    | [v, u], h => exact ⟨v, u, rfl, h.1, h.2.1⟩
  subst hv
  subst hu
  obtain ⟨m, hm⟩ := int_of_globAt (hH.gl (0, fun l => ∃ m, l = [Value.int .i64 m]) (by unfold Glob.tab; simp)).1
  have hlen := Lib.splitB_all sep h1 0 _ s rfl
  have hle := Lib.countB_le sep h1 s.size s (Nat.le_refl _)
  refine Calls.mono (Any.strings_Split Tryz.lay146 (by kernel_rfl) s sep m C.w h0 hm h1) fun e w' he => ?_
  obtain ⟨rfl, rfl⟩ := he
  generalize hL : Lib.splitB sep 0 (Lib.countB s sep) s = L at *
  obtain ⟨C', e1, e2, e3, e4, e5, e6⟩ := hH.newRowF (y := .str) (n := Lib.countB s sep + 1) (l := L) (f := true) (cs := (L.map Value.string).toArray) (e := Tryz.lay146_ren.t 9) (by omega) (by simp [Ty.width]; omega) (by unfold maxLen; omega) (fun i x hx => by
    have h2 : i < L.length := (List.getElem?_eq_some_iff.1 hx).1
    have e : (((L.map Value.string).toArray.toList.drop (i * Ty.str.width)).take Ty.str.width) = [.string x] := by
      have hg := (List.getElem?_eq_some_iff.1 hx).2
      have : i * Ty.str.width = i := by simp [Ty.width]
      rw [this]
      show (List.drop i (L.map Value.string)).take 1 = _
      rw [List.drop_eq_getElem_cons (by simpa using h2)]
      simp [hg]
    rw [e]
    rfl)
  have e1 : C'.H = [.arr .str L .fr 0 none] := by rw [e1, hHe]; rfl
  have hfb : C'.H.all freshB = true := by rw [e1]; rfl
  have hHl : C.H.length = 0 := by rw [hHe]; rfl
  rw [hHl] at e6
  refine ⟨_, C'.frs, rfl, e2, e1, ⟨e3.B, e3.X, e2 ▸ e5.chg, fun g p hh => .inr ?_, e3.len, e3.blk⟩, e4.frs hfb, freshA_r rfl e6⟩
  have := hh.2
  unfold Cx.Own at *
  rw [e3.B, e3.X] at this
  exact this
end Go.Proofs.YtcjfheidmlcbfaaGreatDoor.V
