/- Plain Lean over the printed functions: sizes, conversions, equality of what is equal. -/
import Derived.Test.YtcjfheidmlcbfaaGreatDoorC1
import Derived.Test.YtcjfheidmlcbfaaGreatDoorQPax4
set_option linter.unusedVariables false
set_option linter.unusedSimpArgs false
namespace Go.Proofs.YtcjfheidmlcbfaaGreatDoor.PPa
open Go Go.RowKit Go.Proofs.YtcjfheidmlcbfaaGreatDoor.V Go.Proofs.YtcjfheidmlcbfaaGreatDoor.C

/-! ### Conversions (the types are the same products: they change nothing) -/
theorem toWindowS_ev (l : List S260) (hl : l.length ≤ 1048576) : Ev (fun k => laws_toWindowS.f k l) l := by
  unfold laws_toWindowS.f
  refine Ev.ite_pos (by omega) (Ev.ite_pos (by omega) (Ev.ite_pos (by omega) ?_))
  have := Ev.maploop l z260 z66 (fun x => x) (fun k i h => laws_toWindowS.l6 k l i h) (fun h hh => Ev.step (by
    simp only [laws_toWindowS.l6]; exact Ev.ite_neg (by omega) (Ev.ret _))) fun i hi h hh v hv => Ev.step (by
    simp only [laws_toWindowS.l6, laws_toWindow.f, Option.bind_some, wrap_succ hi (by omega)]
    exact Ev.ite_pos (lt_in hi) (Ev.ite_pos ge_0 (Ev.ite_pos (lt_in hi) (Ev.ite_pos ge_0 (Ev.ite_pos (by omega) hv)))))
  simpa using this
theorem toIntS_ev (l : List Int) (hl : l.length ≤ 1048576) : Ev (fun k => laws_toIntS.f k l) l := by
  unfold laws_toIntS.f
  refine Ev.ite_pos (by omega) (Ev.ite_pos (by omega) (Ev.ite_pos (by omega) ?_))
  have := Ev.maploop l 0 0 (fun x => x) (fun k i h => laws_toIntS.l6 k l i h) (fun h hh => Ev.step (by
    simp only [laws_toIntS.l6]; exact Ev.ite_neg (by omega) (Ev.ret _))) fun i hi h hh v hv => Ev.step (by
    simp only [laws_toIntS.l6, wrap_succ hi (by omega)]
    exact Ev.ite_pos (lt_in hi) (Ev.ite_pos ge_0 (Ev.ite_pos (lt_in hi) (Ev.ite_pos ge_0 (Ev.ite_pos (by omega) hv)))))
  simpa using this
theorem toChanRowS_ev (l : List S180) (hl : l.length ≤ 1048576) : Ev (fun k => laws_toChanRowS.f k l) l := by
  unfold laws_toChanRowS.f
  refine Ev.ite_pos (by omega) (Ev.ite_pos (by omega) (Ev.ite_pos (by omega) ?_))
  have := Ev.maploop l z180 z77 (fun x => x) (fun k i h => laws_toChanRowS.l6 k l i h) (fun h hh => Ev.step (by
    simp only [laws_toChanRowS.l6]; exact Ev.ite_neg (by omega) (Ev.ret _))) fun i hi h hh v hv => Ev.step (by
    simp only [laws_toChanRowS.l6, laws_toChanRow.f, Option.bind_some, wrap_succ hi (by omega)]
    exact Ev.ite_pos (lt_in hi) (Ev.ite_pos ge_0 (Ev.ite_pos (lt_in hi) (Ev.ite_pos ge_0 (Ev.ite_pos (by omega) hv)))))
  simpa using this
theorem toSlotS_ev (l : List S184) (hl : l.length ≤ 1048576) : Ev (fun k => laws_toSlotS.f k l) l := by
  unfold laws_toSlotS.f
  refine Ev.ite_pos (by omega) (Ev.ite_pos (by omega) (Ev.ite_pos (by omega) ?_))
  have := Ev.maploop l z184 z182 (fun x => x) (fun k i h => laws_toSlotS.l6 k l i h) (fun h hh => Ev.step (by
    simp only [laws_toSlotS.l6]; exact Ev.ite_neg (by omega) (Ev.ret _))) fun i hi h hh v hv => Ev.step (by
    simp only [laws_toSlotS.l6, laws_toSlot.f, Option.bind_some, wrap_succ hi (by omega)]
    exact Ev.ite_pos (lt_in hi) (Ev.ite_pos ge_0 (Ev.ite_pos (lt_in hi) (Ev.ite_pos ge_0 (Ev.ite_pos (by omega) hv)))))
  simpa using this
theorem toPartRow_ev (x : S176) (hx : x.f3.length ≤ 1048576) : Ev (fun k => laws_toPartRow.f k x) x := by
  unfold laws_toPartRow.f
  simp only [laws_toPolicy.f, Option.bind_some]
  exact Ev.bind (toWindowS_ev _ hx) (Ev.ret _)
theorem toPartRowS_ev (l : List S176) (hl : l.length ≤ 1048576) (hw : ∀ x ∈ l, x.f3.length ≤ 1048576) : Ev (fun k => laws_toPartRowS.f k l) l := by
  unfold laws_toPartRowS.f
  refine Ev.ite_pos (by omega) (Ev.ite_pos (by omega) (Ev.ite_pos (by omega) ?_))
  have := Ev.maploop l z176 z71 (fun x => x) (fun k i h => laws_toPartRowS.l6 k l i h) (fun h hh => Ev.step (by
    simp only [laws_toPartRowS.l6]; exact Ev.ite_neg (by omega) (Ev.ret _))) fun i hi h hh v hv => Ev.step (by
    simp only [laws_toPartRowS.l6, wrap_succ hi (by omega)]
    exact Ev.ite_pos (lt_in hi) (Ev.ite_pos ge_0 (Ev.ite_pos (lt_in hi) (Ev.bind (toPartRow_ev _ (hw _ (getD_mem hi))) (Ev.ite_pos ge_0 (Ev.ite_pos (by omega) hv))))))
  simpa using this

/-- Tables that are not too long. -/
structure Small (t : S33) : Prop where
  parts : t.f7.length ≤ 1048576
  windows : ∀ x ∈ t.f7, x.f3.length ≤ 1048576
  devs : t.f8.length ≤ 1048576
  chans : t.f9.length ≤ 1048576
  slots : t.f10.length ≤ 1048576
theorem toTables_ev (t : S92) (h : Small t) : Ev (fun k => laws_toTables.f k t) t := by
  unfold laws_toTables.f
  simp only [laws_toShape.f, laws_toCosts.f, Option.bind_some]
  exact Ev.bind (toPartRowS_ev _ h.parts h.windows) (Ev.bind (toIntS_ev _ h.devs) (Ev.bind (toChanRowS_ev _ h.chans) (Ev.bind (toSlotS_ev _ h.slots) (Ev.ret _))))

/-! ### Sizes -/
theorem szPartRow_v (x : S176) (u : Int) (h0 : 0 ≤ u) (h1 : u ≤ 1048576) (g1 : x.f0.size ≤ 9223372036854775807) (g2 : x.f3.length ≤ 9223372036854775807) : ∃ v, laws_szPartRow.f x u = some v ∧ v ≤ u ∧ (0 ≤ v → x.f3.length ≤ 1048576) := by
  have e1 : wrap64 (u - (x.f0.size : Int)) = u - (x.f0.size : Int) := wrap_of (by omega) (by omega)
  unfold laws_szPartRow.f laws_szWindowS.f
  rw [e1]
  by_cases c1 : u - (x.f0.size : Int) < 0
  · exact ⟨-1, by rw [if_pos c1], by omega, fun h => absurd h (by omega)⟩
  · have e2 : wrap64 (u - (x.f0.size : Int) - (x.f3.length : Int)) = u - (x.f0.size : Int) - (x.f3.length : Int) := wrap_of (by omega) (by omega)
    rw [if_neg c1, e2]
    by_cases c2 : u - (x.f0.size : Int) - (x.f3.length : Int) < 0
    · exact ⟨-1, by rw [if_pos c2, Option.bind_some, if_pos (by omega)], by omega, fun h => absurd h (by omega)⟩
    · exact ⟨_, by rw [if_neg c2, Option.bind_some, if_neg c2], by omega, fun h => by omega⟩
theorem szPartRowS_l (l : List S176) (hl : l.length ≤ 1048576) (hnm : ∀ x ∈ l, x.f0.size ≤ 9223372036854775807 ∧ x.f3.length ≤ 9223372036854775807) : ∀ (n i : Nat) (u : Int), i + n = l.length → 0 ≤ u → u ≤ 1048576 →
    ∃ v, Ev (fun k => laws_szPartRowS.l10 k l u (i : Int)) v ∧ v ≤ 1048576 ∧ (0 ≤ v → ∀ x ∈ l.drop i, x.f3.length ≤ 1048576) := by
  intro n
  induction n with
  | zero =>
    intro i u hi h0 h1
    refine ⟨u, Ev.step ?_, h1, fun _ x hx => ?_⟩
    · simp only [laws_szPartRowS.l10]
      exact Ev.ite_neg (by omega) (Ev.ret _)
    · rw [List.drop_of_length_le (by omega)] at hx; cases hx
  | succ n ih =>
    intro i u hi h0 h1
    have hlt : i < l.length := by omega
    obtain ⟨g1, g2⟩ := hnm _ (getD_mem (z := z176) hlt)
    obtain ⟨v, hv, hle, hw⟩ := szPartRow_v (l.getD i z176) u h0 h1 g1 g2
    have hr : rd_T176 l (i : Int) = l.getD i z176 := rfl
    by_cases c : v < 0
    · refine ⟨-1, Ev.step ?_, by omega, fun h => absurd h (by omega)⟩
      simp only [laws_szPartRowS.l10, hr, hv, Option.bind_some]
      exact Ev.ite_pos (lt_in hlt) (Ev.ite_pos ge_0 (Ev.ite_pos (lt_in hlt) (Ev.ite_pos c (Ev.ret _))))
    · obtain ⟨v', hv', h3, h4⟩ := ih (i + 1) v (by omega) (by omega) (by omega)
      refine ⟨v', Ev.step ?_, h3, fun h x hx => ?_⟩
      · simp only [laws_szPartRowS.l10, hr, hv, Option.bind_some, wrap_succ hlt (by omega)]
        exact Ev.ite_pos (lt_in hlt) (Ev.ite_pos ge_0 (Ev.ite_pos (lt_in hlt) (Ev.ite_neg c hv')))
      · rw [Ev.drop_getD l z176 i hlt] at hx
        rcases List.mem_cons.1 hx with rfl | hx
        · exact hw (by omega)
        · exact h4 h x hx
theorem szTables_ev' (t : S92) (h : Fits T92 t) : ∃ v, Ev (fun k => laws_szTables.f k t 1048576) v ∧ (0 ≤ v → Small t ∧ v ≤ 1048576) := by
  have hm : maxLen ≤ 9223372036854775807 := by unfold maxLen; omega
  have hP : t.f7.length ≤ maxLen := h.2.2.2.2.2.2.2.1.1
  have hD : t.f8.length ≤ maxLen := h.2.2.2.2.2.2.2.2.1.1
  have hC : t.f9.length ≤ maxLen := h.2.2.2.2.2.2.2.2.2.1.1
  have hS : t.f10.length ≤ maxLen := h.2.2.2.2.2.2.2.2.2.2.1
  have hnm : ∀ x ∈ t.f7, x.f0.size ≤ 9223372036854775807 ∧ x.f3.length ≤ 9223372036854775807 := fun x hx => by
    have := h.2.2.2.2.2.2.2.1.2 x hx
    exact ⟨Nat.le_trans this.1 hm, Nat.le_trans this.2.2.2.1 hm⟩
  have hp : ∃ v, Ev (fun k => laws_szPartRowS.f k t.f7 1048576) v ∧ v ≤ 1048576 ∧ (0 ≤ v → t.f7.length ≤ 1048576 ∧ ∀ x ∈ t.f7, x.f3.length ≤ 1048576) := by
    have e : wrap64 (1048576 - (t.f7.length : Int)) = 1048576 - (t.f7.length : Int) := wrap_of (by omega) (by omega)
    unfold laws_szPartRowS.f
    rw [e]
    by_cases c : 1048576 - (t.f7.length : Int) < 0
    · exact ⟨-1, Ev.ite_pos c (Ev.ret _), by omega, fun h => absurd h (by omega)⟩
    · obtain ⟨v, hv, h1, h2⟩ := szPartRowS_l t.f7 (by omega) hnm t.f7.length 0 (1048576 - (t.f7.length : Int)) (by omega) (by omega) (by omega)
      exact ⟨v, Ev.ite_neg c hv, h1, fun h => ⟨by omega, by simpa using h2 h⟩⟩
  obtain ⟨v, hv, h1, h2⟩ := hp
  unfold laws_szTables.f
  by_cases c : v < 0
  · exact ⟨-1, Ev.bind hv (Ev.ite_pos c (Ev.ret _)), fun h => absurd h (by omega)⟩
  · obtain ⟨p1, p2⟩ := h2 (by omega)
    have d1 : wrap64 (v - (t.f8.length : Int)) = v - (t.f8.length : Int) := wrap_of (by omega) (by omega)
    simp only [laws_szIntS.f, laws_szChanRowS.f, laws_szSlotS.f, d1]
    by_cases c1 : v - (t.f8.length : Int) < 0
    · refine ⟨-1, Ev.bind hv (Ev.ite_neg c ?_), fun h => absurd h (by omega)⟩
      simp only [d1, if_pos c1, Option.bind_some]
      exact Ev.ite_pos (by omega) (Ev.ret _)
    · have d2 : wrap64 (v - (t.f8.length : Int) - (t.f9.length : Int)) = v - (t.f8.length : Int) - (t.f9.length : Int) := wrap_of (by omega) (by omega)
      by_cases c2 : v - (t.f8.length : Int) - (t.f9.length : Int) < 0
      · refine ⟨-1, Ev.bind hv (Ev.ite_neg c ?_), fun h => absurd h (by omega)⟩
        simp only [d1, if_neg c1, d2, if_pos c2, Option.bind_some]
        exact Ev.ite_pos (by omega) (Ev.ret _)
      · have d3 : wrap64 (v - (t.f8.length : Int) - (t.f9.length : Int) - (t.f10.length : Int)) = v - (t.f8.length : Int) - (t.f9.length : Int) - (t.f10.length : Int) := wrap_of (by omega) (by omega)
        by_cases c3 : v - (t.f8.length : Int) - (t.f9.length : Int) - (t.f10.length : Int) < 0
        · refine ⟨-1, Ev.bind hv (Ev.ite_neg c ?_), fun h => absurd h (by omega)⟩
          simp only [d1, if_neg c1, d2, if_neg c2, d3, if_pos c3, Option.bind_some]
          exact Ev.ite_pos (by omega) (Ev.ret _)
        · refine ⟨v - (t.f8.length : Int) - (t.f9.length : Int) - (t.f10.length : Int), Ev.bind hv (Ev.ite_neg c ?_), fun h => ⟨⟨p1, p2, (by omega : t.f8.length ≤ 1048576), (by omega : t.f9.length ≤ 1048576), (by omega : t.f10.length ≤ 1048576)⟩, by omega⟩⟩
          simp only [d1, if_neg c1, d2, if_neg c2, d3, if_neg c3, Option.bind_some]
          first | exact Ev.ret _ | exact Ev.ite_neg c1 (Ev.ite_neg c2 (Ev.ite_neg c3 (Ev.ret _)))

theorem szTables_ev (t : S92) (h : Fits T92 t) : ∃ v, Ev (fun k => laws_szTables.f k t 1048576) v ∧ (0 ≤ v → Small t) := by
  obtain ⟨v, h1, h2⟩ := szTables_ev' t h
  exact ⟨v, h1, fun h => (h2 h).1⟩

/-! ### Equality -/
theorem eqWindowS_ev (l : List S66) (hl : l.length ≤ 1048576) : Ev (fun k => laws_eqWindowS.f k l l) true := by
  unfold laws_eqWindowS.f
  have := Ev.all l z66 (fun _ => true) (fun k i => laws_eqWindowS.l8 k l l i) true (fun _ => Ev.step (by simp only [laws_eqWindowS.l8]; exact Ev.ite_neg (by omega) (Ev.ret _))) (fun i hi v hv => Ev.step (by
    simp only [laws_eqWindowS.l8, laws_eqWindow.f, Option.bind_some, wrap_succ hi (by omega), if_true, Bool.true_and]
    exact Ev.ite_pos (lt_in hi) (Ev.ite_pos ge_0 (Ev.ite_pos (lt_in hi) (Ev.ite_pos ge_0 (Ev.ite_pos (lt_in hi) hv)))))) (fun _ _ h => by cases h)
  exact Ev.ite_pos rfl (Ev.cast this (by simp [List.all_eq_true]))
theorem eqIntS_ev (l : List Int) (hl : l.length ≤ 1048576) : Ev (fun k => laws_eqIntS.f k l l) true := by
  unfold laws_eqIntS.f
  have := Ev.all l 0 (fun _ => true) (fun k i => laws_eqIntS.l8 k l l i) true (fun _ => Ev.step (by simp only [laws_eqIntS.l8]; exact Ev.ite_neg (by omega) (Ev.ret _))) (fun i hi v hv => Ev.step (by
    simp only [laws_eqIntS.l8, wrap_succ hi (by omega), if_true, Bool.true_and]
    exact Ev.ite_pos (lt_in hi) (Ev.ite_pos ge_0 (Ev.ite_pos (lt_in hi) (Ev.ite_pos ge_0 (Ev.ite_pos (lt_in hi) hv)))))) (fun _ _ h => by cases h)
  exact Ev.ite_pos rfl (Ev.cast this (by simp [List.all_eq_true]))
theorem eqChanRowS_ev (l : List S77) (hl : l.length ≤ 1048576) : Ev (fun k => laws_eqChanRowS.f k l l) true := by
  unfold laws_eqChanRowS.f
  have := Ev.all l z77 (fun _ => true) (fun k i => laws_eqChanRowS.l8 k l l i) true (fun _ => Ev.step (by simp only [laws_eqChanRowS.l8]; exact Ev.ite_neg (by omega) (Ev.ret _))) (fun i hi v hv => Ev.step (by
    simp only [laws_eqChanRowS.l8, laws_eqChanRow.f, Option.bind_some, wrap_succ hi (by omega), if_true, Bool.true_and]
    exact Ev.ite_pos (lt_in hi) (Ev.ite_pos ge_0 (Ev.ite_pos (lt_in hi) (Ev.ite_pos ge_0 (Ev.ite_pos (lt_in hi) hv)))))) (fun _ _ h => by cases h)
  exact Ev.ite_pos rfl (Ev.cast this (by simp [List.all_eq_true]))
theorem eqSlotS_ev (l : List S182) (hl : l.length ≤ 1048576) : Ev (fun k => laws_eqSlotS.f k l l) true := by
  unfold laws_eqSlotS.f
  have := Ev.all l z182 (fun _ => true) (fun k i => laws_eqSlotS.l8 k l l i) true (fun _ => Ev.step (by simp only [laws_eqSlotS.l8]; exact Ev.ite_neg (by omega) (Ev.ret _))) (fun i hi v hv => Ev.step (by
    simp only [laws_eqSlotS.l8, laws_eqSlot.f, Option.bind_some, wrap_succ hi (by omega), if_true, Bool.true_and]
    exact Ev.ite_pos (lt_in hi) (Ev.ite_pos ge_0 (Ev.ite_pos (lt_in hi) (Ev.ite_pos ge_0 (Ev.ite_pos (lt_in hi) hv)))))) (fun _ _ h => by cases h)
  exact Ev.ite_pos rfl (Ev.cast this (by simp [List.all_eq_true]))
theorem eqPartRow_ev (x : S71) (hx : x.f3.length ≤ 1048576) : Ev (fun k => laws_eqPartRow.f k x x) true := by
  unfold laws_eqPartRow.f
  simp only [laws_eqPolicy.f, Option.bind_some, if_true]
  exact Ev.bind (eqWindowS_ev _ hx) (Ev.ite_pos rfl (Ev.ret _))
theorem eqPartRowS_ev (l : List S71) (hl : l.length ≤ 1048576) (hw : ∀ x ∈ l, x.f3.length ≤ 1048576) : Ev (fun k => laws_eqPartRowS.f k l l) true := by
  unfold laws_eqPartRowS.f
  have := Ev.all l z71 (fun _ => true) (fun k i => laws_eqPartRowS.l8 k l l i) true (fun _ => Ev.step (by simp only [laws_eqPartRowS.l8]; exact Ev.ite_neg (by omega) (Ev.ret _))) (fun i hi v hv => Ev.step (by
    simp only [laws_eqPartRowS.l8, wrap_succ hi (by omega), Bool.true_and]
    exact Ev.ite_pos (lt_in hi) (Ev.ite_pos ge_0 (Ev.ite_pos (lt_in hi) (Ev.ite_pos ge_0 (Ev.ite_pos (lt_in hi) (Ev.bind (eqPartRow_ev _ (hw _ (getD_mem hi))) (Ev.ite_pos rfl hv)))))))) (fun _ _ h => by cases h)
  exact Ev.ite_pos rfl (Ev.cast this (by simp [List.all_eq_true]))
theorem eqTables_ev (t : S33) (h : Small t) : Ev (fun k => laws_eqTables.f k t t) true := by
  unfold laws_eqTables.f
  simp only [laws_eqShape.f, laws_eqCosts.f, Option.bind_some, if_true]
  exact Ev.bind (eqPartRowS_ev _ h.parts h.windows) (Ev.ite_pos rfl (Ev.bind (eqIntS_ev _ h.devs) (Ev.ite_pos rfl (Ev.bind (eqChanRowS_ev _ h.chans) (Ev.ite_pos rfl (Ev.bind (eqSlotS_ev _ h.slots) (Ev.ite_pos rfl (Ev.ret _))))))))
end Go.Proofs.YtcjfheidmlcbfaaGreatDoor.PPa
