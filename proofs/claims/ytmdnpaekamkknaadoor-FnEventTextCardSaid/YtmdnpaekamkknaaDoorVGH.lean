/- impl.WordHex, by hand, over the contract of strconv.ParseUint at base 16 and that of impl.hexWord. -/
import Derived.Test.YtmdnpaekamkknaaDoorVGD
import Derived.Test.YtmdnpaekamkknaaDoorQHxx1
set_option linter.unusedVariables false
set_option linter.unusedSimpArgs false
set_option linter.unusedSectionVars false
namespace Go.Proofs.YtmdnpaekamkknaaDoor.V
open Go Go.Proofs Go.RowKit Go.Shelf

theorem glob_below {w w' : World} {q : Nat × (List Value → Prop)} (h : GlobAt w q) (hb : Below w.heap.size w w') : GlobAt w' q := by
  have hlt := h.lt
  obtain ⟨l, ty, fr, hl, h⟩ := h
  exact ⟨l, ty, fr, hl, by rw [hb.block _ hlt]; exact h⟩

noncomputable def wordHexF (k : Nat) (s : ByteArray) : Option (Int × Bool) :=
  if s.size = 8 then
    match hexE 0 s.data.toList with
    | some n => match PHx.impl_hexWord.f k (n : Int) with
      | some z => if z = s then some ((n : Int), true) else some (0, false)
      | none => none
    | none => some (0, false)
  else some (0, false)
noncomputable def wordHexC : FnD := { f := 22, sh := false, ps := [.c (.str)], pb := [], vc := .tup [(false, [.int .u32]), (false, [.bool])], bs := [], R := Int × Bool, fn := fun k x y => wordHexF k x.1, out := fun y => (((y.1, ()), ((y.2, ()), ())), ()), inn := fun d => (d.1.1.1, d.1.2.1.1), inv := fun _ => rfl }

theorem hexE_lt : ∀ (l : List UInt8) (acc n m : Nat), acc < 16 ^ m → hexE acc l = some n → n < 16 ^ (m + l.length)
  | [], acc, n, m, ha, h => by
    cases h
    exact ha
  | c :: r, acc, n, m, ha, h => by
    simp only [hexE] at h
    split at h
    · rename_i d hd
      have hd := hexA_lt hd
      have := hexE_lt r (acc * 16 + d) n (m + 1) (by rw [Nat.pow_succ]; omega) h
      rw [List.length_cons, ← Nat.add_assoc, Nat.add_right_comm]
      exact this
    · cases h
theorem hex_call (k : Nat) (n : Int) (z : ByteArray) (h : PHx.impl_hexWord.f k n = some z) (w : World) (hg : ∀ q, q ∈ Glob.tab → GlobAt w q) :
    Calls Tryd.prog 32 #[.int .u32 n] w fun e w' => e = .returned (.string z) ∧ Below w.heap.size w w' := by
  refine Calls.mono ((PHx.impl_hexWord.ok k (n, ()) () z h).2 (rowCx w) #[.int .u32 n] (rowCx_r w hg) rfl rfl ⟨rfl, trivial⟩) fun e w' he => ?_
  obtain ⟨u, C1, rfl, rfl, _, hcon, _, hu⟩ := he
  obtain rfl : u = .string z := hu
  exact ⟨rfl, row_below hcon⟩

theorem wordHex_no (s : ByteArray) (h8 : s.size ≠ 8) (w : World) :
    Calls Tryd.prog 22 #[.string s] w fun e w' => e = .returned (.tuple #[.int .u32 0, .bool false]) ∧ w' = w := by
  have h8 : ¬ (s.size : Int) = 8 := by omega
  go_enter Tryd.func22, Tryd.ntmps22
  go_wp2
  all_goals go_ret2
  all_goals exact ⟨rfl, rfl⟩
theorem wordHex_err (s : ByteArray) (h8 : s.size = 8) (w : World) (hI : Calls Tryd.prog 38 #[.string s, .int .i64 16, .int .i64 32] w fun e w' => (∃ t p, e = .returned (.tuple #[.int .u64 0, .iface t p])) ∧ Below w.heap.size w w') :
    Calls Tryd.prog 22 #[.string s] w fun e w' => e = .returned (.tuple #[.int .u32 0, .bool false]) ∧ Below w.heap.size w w' := by
  have h8 : (s.size : Int) = 8 := by omega
  go_enter Tryd.func22, Tryd.ntmps22
  go_wp2_with (go_at_call 38; refine hI.mono ?_)
  rintro e W1 ⟨⟨t, p, rfl⟩, hb1⟩
  clear hI
  go_wp2
  all_goals go_ret2
  all_goals exact ⟨rfl, hb1⟩
theorem wordHex_ok (s : ByteArray) (h8 : s.size = 8) (n : Int) (h0 : 0 ≤ n) (h1 : n < 4294967296) (z : ByteArray) (w : World)
    (hI : Calls Tryd.prog 38 #[.string s, .int .i64 16, .int .i64 32] w fun e w' => e = .returned (.tuple #[.int .u64 n, .nilIface]) ∧ Below w.heap.size w w')
    (hJ0 : ∀ W1, Below w.heap.size w W1 → Calls Tryd.prog 32 #[.int .u32 n] W1 fun e w' => e = .returned (.string z) ∧ Below W1.heap.size W1 w') :
    Calls Tryd.prog 22 #[.string s] w fun e w' => e = .returned (if z = s then .tuple #[.int .u32 n, .bool true] else .tuple #[.int .u32 0, .bool false]) ∧ Below w.heap.size w w' := by
  have h8 : (s.size : Int) = 8 := by omega
  have hw : IntKind.u32.wrap n = n := by rw [IntKind.wrap_u32]; omega
  by_cases hz : z = s
  · rw [if_pos hz]
    subst hz
    go_enter Tryd.func22, Tryd.ntmps22
    go_wp2_with (go_at_call 38; refine hI.mono ?_)
    rintro e W1 ⟨rfl, hb1⟩
    clear hI
    have hJ := hJ0 W1 hb1
    clear hJ0
    go_wp2_with (first | (go_at_call 32; refine hJ.mono ?_; rintro e W2 ⟨rfl, hb2⟩) | go_in)
    all_goals go_ret2
    all_goals exact ⟨rfl, hb1.trans (hb2.mono hb1.size)⟩
  · rw [if_neg hz]
    have hz' : ¬ z.toList = s.toList := fun h => hz (ByteArray.ext (by have := congrArg List.toArray h; simpa [ByteArray.toList_eq] using this))
    have hzb : (z.toList == s.toList) = false := by simpa using hz'
    clear hz
    go_enter Tryd.func22, Tryd.ntmps22
    go_wp2_with (go_at_call 38; refine hI.mono ?_)
    rintro e W1 ⟨rfl, hb1⟩
    clear hI
    have hJ := hJ0 W1 hb1
    clear hJ0
    go_wp2_with (first | (go_at_call 32; refine hJ.mono ?_; rintro e W2 ⟨rfl, hb2⟩) | go_in)
    all_goals go_ret2
    all_goals exact ⟨rfl, hb1.trans (hb2.mono hb1.size)⟩

theorem wordHexC_ok : wordHexC.OK Tryd.prog := by
  intro k x y z hz
  obtain ⟨s, x1⟩ := x
  change wordHexF k s = some z at hz
  refine ⟨fun _ _ => by kernel_rfl, fun C us hH hB hHe hal => ?_⟩
  have hHe : C.H = [] := hHe
  obtain ⟨us⟩ := us
  obtain ⟨v, rfl, hv⟩ : ∃ v, us = [v] ∧ v = .string s := by
    match us, hal with
    | [v], h => exact ⟨v, rfl, h.1⟩
  subst hv
  obtain ⟨ts, ps, hs1⟩ := iface_of_globAt (hH.gl (2, fun l => ∃ t p, l = [Value.iface t p]) (by unfold Glob.tab; simp)).1
  have key : Calls Tryd.prog 22 #[.string s] C.w fun e w' => e = .returned (.tuple #[.int .u32 z.1, .bool z.2]) ∧ Below C.w.heap.size C.w w' := by
    unfold wordHexF at hz
    by_cases h8 : s.size = 8
    · rw [if_pos h8] at hz
      cases hE : hexE 0 s.data.toList with
      | some n =>
        rw [hE] at hz
        simp only at hz
        have hlt := hexE_lt s.data.toList 0 n 0 (by decide) hE
        have hl : s.data.toList.length = 8 := by rw [← Lib.size_eq]; exact h8
        rw [hl] at hlt
        cases hf : PHx.impl_hexWord.f k (n : Int) with
        | none => rw [hf] at hz; cases hz
        | some q =>
          rw [hf] at hz
          simp only at hz
          refine (wordHex_ok s h8 n (by omega) (by have : (16 : Nat) ^ (0 + 8) = 4294967296 := by decide
                                                   omega) q C.w ((ParseUint_16_ok Tryd.layMp14 s h8 n hE C.w).mono fun e w' he => ?_) fun W1 hb => hex_call k n q hf W1 fun q hq => glob_below (hH.gl q hq).1 hb).mono fun e w' he => ?_
          · obtain ⟨rfl, rfl⟩ := he
            exact ⟨rfl, Lib.bytesWorld_below _ _ _⟩
          · obtain ⟨rfl, hb⟩ := he
            refine ⟨?_, hb⟩
            split at hz <;> cases hz <;> simp [*]
      | none =>
        rw [hE] at hz
        cases hz
        refine wordHex_err s h8 C.w ((ParseUint_16_no Tryd.layMp14 s h8 hE _ C.w hs1 (.inr ⟨_, _, rfl⟩)).mono fun e w' he => ?_)
        obtain ⟨⟨N, rfl⟩, hb⟩ := he
        exact ⟨⟨_, _, rfl⟩, hb⟩
    · rw [if_neg h8] at hz
      cases hz
      refine (wordHex_no s h8 C.w).mono fun e w' he => ?_
      obtain ⟨rfl, rfl⟩ := he
      exact ⟨rfl, Below.refl _ _⟩
  refine Calls.mono key fun e w' he => ?_
  obtain ⟨rfl, hb⟩ := he
  obtain ⟨e3, e4, e5⟩ := hH.world hb (C' := { C with w := w' }) rfl
  have hfb : ({ C with w := w' } : Cx).H.all freshB = true := by show C.H.all freshB = true; rw [hHe]; rfl
  refine ⟨_, ({ C with w := w' } : Cx).frs, rfl, rfl, hHe, ⟨rfl, rfl, e5.chg, fun g p hh => .inr ?_, e3.len, e3.blk⟩, e4.frs hfb, ⟨_, rfl, ⟨rfl, trivial⟩, ⟨rfl, trivial⟩, trivial⟩⟩
  have := hh.2
  unfold Cx.Own at *
  exact this
end Go.Proofs.YtmdnpaekamkknaaDoor.V
