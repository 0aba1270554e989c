/- impl.OpName and impl.OpOf, by hand: a table of strings. -/
import Derived.Test.YtmdnpaekamkknaaDoorEVG
import Derived.Test.YtmdnpaekamkknaaDoorESh2
set_option linter.unusedVariables false
set_option linter.unusedSimpArgs false
set_option linter.unusedSectionVars false
namespace Go.Proofs.YtmdnpaekamkknaaDoor.V
open Go Go.Proofs Go.RowKit Go.Lib Go.Shelf

def opNameF (n : Int) : Option ByteArray := if 0 ≤ n then (if n ≤ 32 then (match Glob.loop_example_g00076_impl_opNames[n.toNat]? with | some (.string s) => some s | _ => none) else some (ByteArray.mk #[])) else some (ByteArray.mk #[])
def opNameC : FnD := { f := 30, sh := false, ps := [.c (.int .i64)], pb := [], vc := .c (.str), bs := [], R := ByteArray, fn := fun k x y => opNameF x.1, out := fun y => (y, ()), inn := fun d => d.1, inv := fun _ => rfl }
theorem opName_out (n : Int) (h : ¬ (0 ≤ n ∧ n ≤ 32)) (w : World) : Calls Tryd.prog 30 #[.int .i64 n] w fun e w' => e = .returned (.string (ByteArray.mk #[])) ∧ w' = w := by
  by_cases h1 : 0 ≤ n
  · have h2 : ¬ n ≤ 32 := fun h2 => h ⟨h1, h2⟩
    clear h
    go_enter Tryd.func30, Tryd.ntmps30
    go_wp2
    go_ret
    exact ⟨rfl, rfl⟩
  · clear h
    go_enter Tryd.func30, Tryd.ntmps30
    go_wp2
    go_ret
    exact ⟨rfl, rfl⟩
theorem opName_in (n : Nat) (h : n ≤ 32) (w : World) (s : ByteArray) (hc : w.cell? ⟨0, n, none⟩ = some (.string s)) : Calls Tryd.prog 30 #[.int .i64 n] w fun e w' => e = .returned (.string s) ∧ w' = w := by
  have hd : (n : Int) ≤ 32 := by omega
  have hlt : n < 33 := by omega
  go_enter Tryd.func30, Tryd.ntmps30
  go_wp2
  go_ret
  exact ⟨rfl, rfl⟩
theorem opNameC_ok : opNameC.OK Tryd.prog := by
  intro k x y z hz
  obtain ⟨n, x1⟩ := x
  change opNameF n = some z at hz
  refine ⟨fun _ _ => by kernel_rfl, fun C us hH hB hHe hal => ?_⟩
  have hHe : C.H = [] := hHe
  obtain ⟨us⟩ := us
  obtain ⟨v, rfl, hv⟩ : ∃ v, us = [v] ∧ v = .int .i64 n := by
    match us, hal with
    | [v], h => exact ⟨v, rfl, h.1⟩
  subst hv
  obtain ⟨C1, z1, z2, z3, z4, z5⟩ := ok_str hH hHe (Below.refl C.w.heap.size C.w) z
  by_cases h : 0 ≤ n ∧ n ≤ 32
  · obtain ⟨m, rfl⟩ := Int.eq_ofNat_of_zero_le h.1
    have hm : m ≤ 32 := Int.ofNat_le.1 h.2
    have hs : Glob.loop_example_g00076_impl_opNames[m]? = some (.string z) := by
      unfold opNameF at hz
      rw [if_pos h.1, if_pos h.2] at hz
      simp only [Int.toNat_natCast] at hz
      split at hz
      · rename_i s hs; cases hz; exact hs
      · cases hz
    have hc := cell_of_globAt (g := 0) (l := Glob.loop_example_g00076_impl_opNames) (hH.gl (0, fun l => l = Glob.loop_example_g00076_impl_opNames) (by unfold Glob.tab; simp)).1 m hs
    refine Calls.mono (opName_in m hm C.w z hc) fun e w' he => ?_
    obtain ⟨rfl, rfl⟩ := he
    exact ⟨_, C1, rfl, z1, z2, z3, z4, z5⟩
  · have e : z = ByteArray.mk #[] := by
      unfold opNameF at hz
      split at hz
      · rename_i h0
        rw [if_neg (fun h1 => h ⟨h0, h1⟩)] at hz; exact (Option.some.inj hz).symm
      · exact (Option.some.inj hz).symm
    subst e
    refine Calls.mono (opName_out n h C.w) fun e w' he => ?_
    obtain ⟨rfl, rfl⟩ := he
    exact ⟨_, C1, rfl, z1, z2, z3, z4, z5⟩

def opNs : List ByteArray := Glob.loop_example_g00076_impl_opNames.map fun v => match v with | .string s => s | _ => ByteArray.empty
def opOfF (s : ByteArray) : Option Int := some (Lib.idxOfS opNs s)
def opOfC : FnD := { f := 23, sh := false, ps := [.c (.str)], pb := [], vc := .c (.int .i64), bs := [], R := Int, fn := fun k x y => opOfF x.1, out := fun y => (y, ()), inn := fun d => d.1, inv := fun _ => rfl }
theorem opOf_calls (s : ByteArray) (w : World) (hc : ∀ j, j < opNs.length → w.cell? ⟨0, 0 + j, none⟩ = some (.string (opNs.getD j ByteArray.empty))) :
    Calls Tryd.prog 23 #[.string s] w fun e w' => e = .returned (.int .i64 (Lib.idxOfS opNs s)) ∧ w' = w := by
  have hl : opNs.length = 33 := by decide +kernel
  have hI := Any.slices_Index_string Tryd.lay109 0 0 33 33 opNs s w (by omega) (by decide) hc
  rw [List.take_of_length_le (by omega)] at hI
  clear hc
  generalize Lib.idxOfS opNs s = r at hI ⊢
  go_enter Tryd.func23, Tryd.ntmps23
  go_wp2_with (go_at_call 39; refine hI.mono ?_; rintro e w' ⟨rfl, rfl⟩)
  go_ret
  exact ⟨rfl, rfl⟩
theorem opOfC_ok : opOfC.OK Tryd.prog := by
  intro k x y z hz
  obtain ⟨s, x1⟩ := x
  change opOfF s = some z at hz
  cases hz
  refine ⟨fun _ _ => by kernel_rfl, fun C us hH hB hHe hal => ?_⟩
  have hHe : C.H = [] := hHe
  obtain ⟨us⟩ := us
  obtain ⟨v, rfl, hv⟩ : ∃ v, us = [v] ∧ v = .string s := by
    match us, hal with
    | [v], h => exact ⟨v, rfl, h.1⟩
  subst hv
  refine Calls.mono (opOf_calls s C.w fun j hj => ?_) fun e w' he => ?_
  · rw [Nat.zero_add]
    refine cell_of_globAt (hH.gl (0, fun l => l = Glob.loop_example_g00076_impl_opNames) (by unfold Glob.tab; simp)).1 j ?_
    have key : ∀ j : Fin 33, Glob.loop_example_g00076_impl_opNames[j.1]? = some (.string (opNs.getD j.1 ByteArray.empty)) := by
      intro j
      match j with
      | ⟨j, hj⟩ =>
        rcases j with _ | _ | _ | _ | _ | _ | _ | _ | _ | _ | _ | _ | _ | _ | _ | _ | _ | _ | _ | _ | _ | _ | _ | _ | _ | _ | _ | _ | _ | _ | _ | _ | _ | j
        all_goals first | rfl | omega
    exact key ⟨j, hj⟩
  · obtain ⟨rfl, rfl⟩ := he
    have hfb : C.H.all freshB = true := by rw [hHe]; rfl
    have e5 := Frm.refl C
    refine ⟨_, C.frs, rfl, rfl, hHe, ⟨rfl, rfl, e5.chg, fun g p hh => .inr ?_, Nat.le_refl _, fun _ _ => ⟨rfl, rfl⟩⟩, hH.frs hfb, rfl⟩
    have := hh.2
    unfold Cx.Own at *
    exact this
end Go.Proofs.YtmdnpaekamkknaaDoor.V
