/- impl.DecNum and impl.WordHex, by hand, over the contracts of strconv.Atoi, strconv.Itoa and strconv.ParseUint. -/
import Derived.Test.YtcjfheidmlcbfaaGreatDoorChecked
import Derived.Test.YtcjfheidmlcbfaaGreatDoorSVL
import Derived.Test.YtcjfheidmlcbfaaGreatDoorSSh1
import Derived.Test.YtcjfheidmlcbfaaGreatDoorSSh2
import Derived.Test.YtcjfheidmlcbfaaGreatDoorSVX
import Derived.Lib.AppendIntMem
import Derived.WideLaws
set_option linter.unusedVariables false
set_option linter.unusedSimpArgs false
set_option linter.unusedSectionVars false
namespace Go.Proofs.YtcjfheidmlcbfaaGreatDoor.V
open Go Go.Proofs Go.RowKit Go.Shelf

theorem tab_below {P : Program} {w w' : World} {name : String} {k : IntKind} {zs : List Int} (h : Lib.TabIs P w name k zs) (hb : Below w.heap.size w w') : Lib.TabIs P w' name k zs := by
  unfold Lib.TabIs World.var? at *
  cases hg : P.globalNamed name with
  | none => rw [hg] at h; cases h
  | some g =>
    rw [hg] at h
    simp only [Option.bind_some] at h ⊢
    have hlt : g < w.heap.size := by
      rcases Nat.lt_or_ge g w.heap.size with h' | h'
      · exact h'
      · simp [Array.getElem?_eq_none h'] at h
    rw [hb.block g hlt]
    exact h

def decR (s : ByteArray) (most : Int) : Int × Bool :=
  match Lib.atoiAll s.data.toList with
  | .ok v => if (⟨(Lib.itoa v).toArray⟩ : ByteArray) = s ∧ 0 ≤ most ∧ most ≤ 4294967295 ∧ -most ≤ v ∧ v ≤ most then (v, true) else (0, false)
  | _ => (0, false)
def decNumF (s : ByteArray) (most : Int) : Option (Int × Bool) := if s.size ≤ 281474976710656 then some (decR s most) else none
def decNumC : FnD := { f := 96, sh := false, ps := [.c (.str), .c (.int .i64)], pb := [], vc := .tup [(false, [.int .i64]), (false, [.bool])], bs := [], R := Int × Bool, fn := fun k x y => decNumF x.1 x.2.1, out := fun y => (((y.1, ()), ((y.2, ()), ())), ()), inn := fun d => (d.1.1.1, d.1.2.1.1), inv := fun _ => rfl }

theorem decNum_ok (s : ByteArray) (most v : Int) (hs : s.size ≤ 281474976710656) (hv : Lib.atoiAll s.data.toList = .ok v) (w : World) (htab : Lib.TabIs Tryz.prog w "internal/strconv.uint64pow10" .u64 Lib.pow10Tab) :
    Calls Tryz.prog 96 #[.string s, .int .i64 most] w fun e w' => e = .returned (.tuple #[.int .i64 (decR s most).1, .bool (decR s most).2]) ∧ Below w.heap.size w w' := by
  obtain ⟨vb0, vb1⟩ := Lib.atoiAll_bounds hv
  have hI := Any.strconv_Atoi_ok Tryz.lay172 s (by omega) v hv w
  have hD : decR s most = if (⟨(Lib.itoa v).toArray⟩ : ByteArray) = s ∧ 0 ≤ most ∧ most ≤ 4294967295 ∧ -most ≤ v ∧ v ≤ most then (v, true) else (0, false) := by unfold decR; rw [hv]
  have hJ0 : ∀ W1, Below w.heap.size w W1 → _ := fun W1 hb => Any.strconv_Itoa Tryz.lay171 v vb0 vb1 W1 (tab_below htab hb)
  generalize hx : (⟨(Lib.itoa v).toArray⟩ : ByteArray) = x at *
  have hgr : ∀ (W1 : World) q os, Below w.heap.size w W1 → Below w.heap.size w («Sort».grow (W1.drewN q) os) := fun W1 q os hb => hb.trans ((Lib.below_grow w.heap.size W1 hb.size q os))
  clear hx htab
  by_cases hc : x = s ∧ 0 ≤ most ∧ most ≤ 4294967295 ∧ -most ≤ v ∧ v ≤ most
  · rw [hD, if_pos hc]
    clear hD
    obtain ⟨rfl, c1, c2, c3, c4⟩ := hc
    clear hv
    go_enter Tryz.func96, Tryz.ntmps96
    go_wp2_with (go_at_call 145; refine hI.mono ?_)
    rintro e W1 ⟨rfl, hW⟩
    have hb1 : Below w.heap.size w W1 := by
      rcases hW with rfl | ⟨t, rfl⟩
      · exact Below.refl _ _
      · exact Lib.bytesWorld_below _ _ _
    clear hW hI
    have hJ := hJ0 W1 hb1
    clear hJ0
    go_wp2_with (first | (go_at_call 146; refine hJ.mono ?_; rintro e W2 ⟨rfl, q, os, rfl⟩) | go_in)
    all_goals go_ret2
    all_goals exact ⟨rfl, hgr _ _ _ hb1⟩
  · rw [hD, if_neg hc]
    clear hD hv
    by_cases hxs : x = s
    · subst hxs
      have hc1 : ¬ (0 ≤ most ∧ most ≤ 4294967295 ∧ -most ≤ v ∧ v ≤ most) := fun h => hc ⟨rfl, h⟩
      have HC := Lib.hid hc1
      clear hc1 hc
      go_enter Tryz.func96, Tryz.ntmps96
      go_wp2_with (go_at_call 145; refine hI.mono ?_)
      rintro e W1 ⟨rfl, hW⟩
      have hb1 : Below w.heap.size w W1 := by
        rcases hW with rfl | ⟨t, rfl⟩
        · exact Below.refl _ _
        · exact Lib.bytesWorld_below _ _ _
      clear hW hI
      have hJ := hJ0 W1 hb1
      clear hJ0
      go_wp2_with (first | (go_at_call 146; refine hJ.mono ?_; rintro e W2 ⟨rfl, q, os, rfl⟩) | go_in)
      all_goals go_ret2
      all_goals first
        | exact ⟨rfl, hgr _ _ _ hb1⟩
        | (rename_i h1 h2 h3 h4; exact absurd ⟨h1, h2, h3, by simpa using h4⟩ (show ¬ (_ ∧ _ ∧ _ ∧ _) from HC))
    · have hxs' : ¬ x.toList = s.toList := fun h => hxs (ByteArray.ext (by have := congrArg List.toArray h; simpa [ByteArray.toList_eq] using this))
      clear hc
      go_enter Tryz.func96, Tryz.ntmps96
      go_wp2_with (go_at_call 145; refine hI.mono ?_)
      rintro e W1 ⟨rfl, hW⟩
      have hb1 : Below w.heap.size w W1 := by
        rcases hW with rfl | ⟨t, rfl⟩
        · exact Below.refl _ _
        · exact Lib.bytesWorld_below _ _ _
      clear hW hI
      have hJ := hJ0 W1 hb1
      clear hJ0
      go_wp2_with (first | (go_at_call 146; refine hJ.mono ?_; rintro e W2 ⟨rfl, q, os, rfl⟩) | go_in)
      all_goals go_ret2
      all_goals exact ⟨rfl, hgr _ _ _ hb1⟩

theorem decNum_err (s : ByteArray) (most n : Int) (w : World) (hI : Calls Tryz.prog 145 #[.string s] w fun e w' => (∃ t p, e = .returned (.tuple #[.int .i64 n, .iface t p])) ∧ Below w.heap.size w w') :
    Calls Tryz.prog 96 #[.string s, .int .i64 most] w fun e w' => e = .returned (.tuple #[.int .i64 0, .bool false]) ∧ Below w.heap.size w w' := by
  go_enter Tryz.func96, Tryz.ntmps96
  go_wp2_with (go_at_call 145; refine hI.mono ?_)
  rintro e W1 ⟨⟨t, p, rfl⟩, hb1⟩
  clear hI
  go_wp2
  all_goals go_ret2
  all_goals exact ⟨rfl, hb1⟩

theorem decNumC_ok : decNumC.OK Tryz.prog := by
  intro k x y z hz
  obtain ⟨s, most, x1⟩ := x
  change decNumF s most = some z at hz
  unfold decNumF at hz
  split at hz
  case isFalse => cases hz
  rename_i h0
  cases hz
  refine ⟨fun _ _ => by kernel_rfl, fun C us hH hB hHe hal => ?_⟩
  have hHe : C.H = [] := hHe
  obtain ⟨us⟩ := us
  obtain ⟨v, u, rfl, hv, hu⟩ : ∃ v u, us = [v, u] ∧ v = .string s ∧ u = .int .i64 most := by
    match us, hal with
    | [v, u], h => exact ⟨v, u, rfl, h.1, h.2.1⟩
  subst hv
  subst hu
  have htab : Lib.TabIs Tryz.prog C.w "internal/strconv.uint64pow10" .u64 Lib.pow10Tab :=
    var_of_globAt (g := 6) (l := Lib.pow10Tab.map fun z => Value.int .u64 z) (by kernel_rfl) (hH.gl (6, fun l => l = Glob.internal_strconv_uint64pow10) (by unfold Glob.tab; simp)).1
  obtain ⟨ts, ps, hs1⟩ := iface_of_globAt (hH.gl (1, fun l => ∃ t p, l = [Value.iface t p]) (by unfold Glob.tab; simp)).1
  obtain ⟨tr, pr, hr1⟩ := iface_of_globAt (hH.gl (2, fun l => ∃ t p, l = [Value.iface t p]) (by unfold Glob.tab; simp)).1
  have key : Calls Tryz.prog 96 #[.string s, .int .i64 most] C.w fun e w' => e = .returned (.tuple #[.int .i64 (decR s most).1, .bool (decR s most).2]) ∧ Below C.w.heap.size C.w w' := by
    rcases hv : Lib.atoiAll s.data.toList with v | _ | _
    · exact decNum_ok s most v h0 hv C.w htab
    · have hD : decR s most = (0, false) := by unfold decR; rw [hv]
      rw [hD]
      refine decNum_err s most 0 C.w ((Any.strconv_Atoi_syntax Tryz.lay172 s h0 hv _ C.w hs1 (.inr ⟨_, _, rfl⟩)).mono fun e w' he => ?_)
      obtain ⟨N, rfl, _, _, hb⟩ := he
      exact ⟨⟨_, _, rfl⟩, hb⟩
    · have hD : decR s most = (0, false) := by unfold decR; rw [hv]
      rw [hD]
      refine decNum_err s most (Lib.atoiSat s.data.toList) C.w ((Any.strconv_Atoi_range Tryz.lay172 s h0 hv _ C.w hr1 (.inr ⟨_, _, rfl⟩)).mono fun e w' he => ?_)
      obtain ⟨N, rfl, _, _, hb⟩ := he
      exact ⟨⟨_, _, rfl⟩, hb⟩
  refine Calls.mono key fun e w' he => ?_
  obtain ⟨rfl, hb⟩ := he
  obtain ⟨e3, e4, e5⟩ := hH.world hb (C' := { C with w := w' }) rfl
  have hfb : ({ C with w := w' } : Cx).H.all freshB = true := by show C.H.all freshB = true; rw [hHe]; rfl
  refine ⟨_, ({ C with w := w' } : Cx).frs, rfl, rfl, hHe, ⟨rfl, rfl, e5.chg, fun g p hh => .inr ?_, e3.len, e3.blk⟩, e4.frs hfb, ⟨_, rfl, ⟨rfl, trivial⟩, ⟨rfl, trivial⟩, trivial⟩⟩
  have := hh.2
  unfold Cx.Own at *
  exact this
end Go.Proofs.YtcjfheidmlcbfaaGreatDoor.V
