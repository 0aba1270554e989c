/- Plain Lean over the printed functions: lists of bytes (sizes, conversions, equality). -/
import Derived.Test.YtgagpmiooeoodaaGreatC10
set_option linter.unusedVariables false
set_option linter.unusedSimpArgs false
namespace Go.Proofs.YtgagpmiooeoodaaGreat.PTwo
open Go Go.RowKit Go.Proofs.YtgagpmiooeoodaaGreat.V Go.Proofs.YtgagpmiooeoodaaGreat.C

/-- A loop that takes sizes off. -/
theorem szloop {α : Type} (l : List α) (z : α) (ok : α → Prop) (g : Nat → α → Int → Option Int) (L : Nat → Int → Int → Option Int) (hg : ∀ x ∈ l, ∀ u, 0 ≤ u → u ≤ 1048576 → ∃ v, Ev (fun k => g k x u) v ∧ v ≤ u ∧ (0 ≤ v → ok x))
    (hend : ∀ u, Ev (fun k => L k u (l.length : Int)) u) (hstep : ∀ i, i < l.length → ∀ u v, Ev (fun k => g k (l.getD i z) u) v → (v < 0 → Ev (fun k => L k u (i : Int)) (-1)) ∧ (0 ≤ v → ∀ w, Ev (fun k => L k v ((i + 1 : Nat) : Int)) w → Ev (fun k => L k u (i : Int)) w)) :
    ∀ (n i : Nat) (u : Int), i + n = l.length → 0 ≤ u → u ≤ 1048576 → ∃ v, Ev (fun k => L k u (i : Int)) v ∧ v ≤ u ∧ (0 ≤ v → ∀ x ∈ l.drop i, ok x)
  | 0, i, u, hi, h0, h1 => by
    obtain rfl : i = l.length := by omega
    exact ⟨u, hend u, Int.le_refl _, fun _ x hx => by rw [List.drop_of_length_le (Nat.le_refl _)] at hx; cases hx⟩
  | n + 1, i, u, hi, h0, h1 => by
    obtain ⟨v, hv, hle, hok⟩ := hg _ (getD_mem (z := z) (by omega : i < l.length)) u h0 h1
    obtain ⟨s1, s2⟩ := hstep i (by omega) u v hv
    by_cases c : v < 0
    · exact ⟨-1, s1 c, by omega, fun h => absurd h (by omega)⟩
    · obtain ⟨w, hw, h3, h4⟩ := szloop l z ok g L hg hend hstep n (i + 1) v (by omega) (by omega) (by omega)
      refine ⟨w, s2 (by omega) w hw, by omega, fun h x hx => ?_⟩
      rw [Ev.drop_getD l z i (by omega)] at hx
      rcases List.mem_cons.1 hx with rfl | hx
      · exact hok (by omega)
      · exact h4 h x hx
def Sm1 (l : List Int) : Prop := l.length ≤ 1048576
def Sm2 (l : List (List Int)) : Prop := l.length ≤ 1048576 ∧ ∀ x ∈ l, Sm1 x
def Sm3 (l : List (List (List Int))) : Prop := l.length ≤ 1048576 ∧ ∀ x ∈ l, Sm2 x
def Big1 (l : List Int) : Prop := l.length ≤ 9223372036854775807
def Big2 (l : List (List Int)) : Prop := l.length ≤ 9223372036854775807 ∧ ∀ x ∈ l, Big1 x
def Big3 (l : List (List (List Int))) : Prop := l.length ≤ 9223372036854775807 ∧ ∀ x ∈ l, Big2 x
theorem szByteS_v (l : List Int) (hb : Big1 l) (u : Int) (h0 : 0 ≤ u) (h1 : u ≤ 1048576) : ∃ v, Ev (fun k => laws_szByteS.f l u) v ∧ v ≤ u ∧ (0 ≤ v → Sm1 l) := by
  unfold Big1 at hb
  have e : wrap64 (u - (l.length : Int)) = u - (l.length : Int) := wrap_of (by omega) (by omega)
  unfold laws_szByteS.f
  rw [e]
  by_cases c : u - (l.length : Int) < 0
  · exact ⟨-1, Ev.ite_pos c (Ev.ret _), by omega, fun h => absurd h (by omega)⟩
  · exact ⟨_, Ev.ite_neg c (Ev.ret _), by omega, fun h => by unfold Sm1; omega⟩
theorem szByteSS_v (l : List (List Int)) (hb : Big2 l) (u : Int) (h0 : 0 ≤ u) (h1 : u ≤ 1048576) : ∃ v, Ev (fun k => laws_szByteSS.f k l u) v ∧ v ≤ u ∧ (0 ≤ v → Sm2 l) := by
  have hb1 := hb.1
  have e : wrap64 (u - (l.length : Int)) = u - (l.length : Int) := wrap_of (by omega) (by omega)
  unfold laws_szByteSS.f
  rw [e]
  by_cases c : u - (l.length : Int) < 0
  · exact ⟨-1, Ev.ite_pos c (Ev.ret _), by omega, fun h => absurd h (by omega)⟩
  · obtain ⟨v, hv, h3, h4⟩ := szloop l [] Sm1 (fun k x u => laws_szByteS.f x u) (fun k u i => laws_szByteSS.l10 k l u i) (fun x hx u h0 h1 => szByteS_v x (hb.2 x hx) u h0 h1) (fun u => Ev.step (by simp only [laws_szByteSS.l10]; exact Ev.ite_neg (by omega) (Ev.ret _)))
      (fun i hi u v hv => by
        have hr : rd_ListInt l (i : Int) = l.getD i [] := rfl
        refine ⟨fun c => Ev.step ?_, fun c w hw => Ev.step ?_⟩
        all_goals
          simp only [laws_szByteSS.l10, hr, wrap_succ hi (by omega)]
          refine Ev.ite_pos (lt_in hi) (Ev.ite_pos ge_0 (Ev.ite_pos (lt_in hi) (Ev.bind hv ?_)))
        · exact Ev.ite_pos c (Ev.ret _)
        · exact Ev.ite_neg (by omega) hw) l.length 0 (u - (l.length : Int)) (by omega) (by omega) (by omega)
    exact ⟨v, Ev.ite_neg c hv, by omega, fun h => ⟨by omega, by simpa using h4 h⟩⟩
theorem szByteSSS_v (l : List (List (List Int))) (hb : Big3 l) (u : Int) (h0 : 0 ≤ u) (h1 : u ≤ 1048576) : ∃ v, Ev (fun k => laws_szByteSSS.f k l u) v ∧ v ≤ u ∧ (0 ≤ v → Sm3 l) := by
  have hb1 := hb.1
  have e : wrap64 (u - (l.length : Int)) = u - (l.length : Int) := wrap_of (by omega) (by omega)
  unfold laws_szByteSSS.f
  rw [e]
  by_cases c : u - (l.length : Int) < 0
  · exact ⟨-1, Ev.ite_pos c (Ev.ret _), by omega, fun h => absurd h (by omega)⟩
  · obtain ⟨v, hv, h3, h4⟩ := szloop l [] Sm2 (fun k x u => laws_szByteSS.f k x u) (fun k u i => laws_szByteSSS.l10 k l u i) (fun x hx u h0 h1 => szByteSS_v x (hb.2 x hx) u h0 h1) (fun u => Ev.step (by simp only [laws_szByteSSS.l10]; exact Ev.ite_neg (by omega) (Ev.ret _)))
      (fun i hi u v hv => by
        have hr : rd_ListListInt l (i : Int) = l.getD i [] := rfl
        refine ⟨fun c => Ev.step ?_, fun c w hw => Ev.step ?_⟩
        all_goals
          simp only [laws_szByteSSS.l10, hr, wrap_succ hi (by omega)]
          refine Ev.ite_pos (lt_in hi) (Ev.ite_pos ge_0 (Ev.ite_pos (lt_in hi) (Ev.bind hv ?_)))
        · exact Ev.ite_pos c (Ev.ret _)
        · exact Ev.ite_neg (by omega) hw) l.length 0 (u - (l.length : Int)) (by omega) (by omega) (by omega)
    exact ⟨v, Ev.ite_neg c hv, by omega, fun h => ⟨by omega, by simpa using h4 h⟩⟩
theorem fit_big1 {l : List Int} (h : Fits (.sl (.int .u8)) l) : Big1 l := by
  have h1 : l.length ≤ maxLen := h.1
  have hm : maxLen ≤ 9223372036854775807 := by unfold maxLen; omega
  unfold Big1; omega
theorem fit_big2 {l : List (List Int)} (h : Fits (.sl (.sl (.int .u8))) l) : Big2 l := by
  have h1 : l.length ≤ maxLen := h.1
  have hm : maxLen ≤ 9223372036854775807 := by unfold maxLen; omega
  exact ⟨by omega, fun x hx => fit_big1 (h.2 x hx)⟩
theorem fit_big3 {l : List (List (List Int))} (h : Fits (.sl (.sl (.sl (.int .u8)))) l) : Big3 l := by
  have h1 : l.length ≤ maxLen := h.1
  have hm : maxLen ≤ 9223372036854775807 := by unfold maxLen; omega
  exact ⟨by omega, fun x hx => fit_big2 (h.2 x hx)⟩

theorem toByteS_ev (l : List Int) (hl : Sm1 l) : Ev (fun k => laws_toByteS.f k l) l := by
  unfold Sm1 at hl
  unfold laws_toByteS.f
  refine Ev.ite_pos (by omega) (Ev.ite_pos (by omega) (Ev.ite_pos (by omega) ?_))
  have := Ev.maploop l 0 0 (fun x => x) (fun k i h => laws_toByteS.l6 k l i h) (fun h hh => Ev.step (by
    simp only [laws_toByteS.l6]; exact Ev.ite_neg (by omega) (Ev.ret _))) fun i hi h hh v hv => Ev.step (by
    simp only [laws_toByteS.l6, wrap_succ hi (by omega)]
    exact Ev.ite_pos (lt_in hi) (Ev.ite_pos ge_0 (Ev.ite_pos (lt_in hi) (Ev.ite_pos ge_0 (Ev.ite_pos (by omega) hv)))))
  simpa using this
theorem toByteSS_ev (l : List (List Int)) (hl : Sm2 l) : Ev (fun k => laws_toByteSS.f k l) l := by
  have hl1 := hl.1
  unfold laws_toByteSS.f
  refine Ev.ite_pos (by omega) (Ev.ite_pos (by omega) (Ev.ite_pos (by omega) ?_))
  have := Ev.maploop l [] [] (fun x => x) (fun k i h => laws_toByteSS.l6 k l i h) (fun h hh => Ev.step (by
    simp only [laws_toByteSS.l6]; exact Ev.ite_neg (by omega) (Ev.ret _))) fun i hi h hh v hv => Ev.step (by
    simp only [laws_toByteSS.l6, wrap_succ hi (by omega)]
    exact Ev.ite_pos (lt_in hi) (Ev.ite_pos ge_0 (Ev.ite_pos (lt_in hi) (Ev.bind (toByteS_ev _ (hl.2 _ (getD_mem hi))) (Ev.ite_pos ge_0 (Ev.ite_pos (by omega) hv))))))
  simpa using this
theorem toByteSSS_ev (l : List (List (List Int))) (hl : Sm3 l) : Ev (fun k => laws_toByteSSS.f k l) l := by
  have hl1 := hl.1
  unfold laws_toByteSSS.f
  refine Ev.ite_pos (by omega) (Ev.ite_pos (by omega) (Ev.ite_pos (by omega) ?_))
  have := Ev.maploop l [] [] (fun x => x) (fun k i h => laws_toByteSSS.l6 k l i h) (fun h hh => Ev.step (by
    simp only [laws_toByteSSS.l6]; exact Ev.ite_neg (by omega) (Ev.ret _))) fun i hi h hh v hv => Ev.step (by
    simp only [laws_toByteSSS.l6, wrap_succ hi (by omega)]
    exact Ev.ite_pos (lt_in hi) (Ev.ite_pos ge_0 (Ev.ite_pos (lt_in hi) (Ev.bind (toByteSS_ev _ (hl.2 _ (getD_mem hi))) (Ev.ite_pos ge_0 (Ev.ite_pos (by omega) hv))))))
  simpa using this
theorem eqByteS_ev (l : List Int) (hl : Sm1 l) : Ev (fun k => laws_eqByteS.f k l l) true := by
  unfold Sm1 at hl
  unfold laws_eqByteS.f
  have := Ev.all l 0 (fun _ => true) (fun k i => laws_eqByteS.l8 k l l i) true (fun _ => Ev.step (by simp only [laws_eqByteS.l8]; exact Ev.ite_neg (by omega) (Ev.ret _))) (fun i hi v hv => Ev.step (by
    simp only [laws_eqByteS.l8, wrap_succ hi (by omega), if_true, Bool.true_and]
    exact Ev.ite_pos (lt_in hi) (Ev.ite_pos ge_0 (Ev.ite_pos (lt_in hi) (Ev.ite_pos ge_0 (Ev.ite_pos (lt_in hi) hv)))))) (fun _ _ h => by cases h)
  exact Ev.ite_pos rfl (Ev.cast this (by simp [List.all_eq_true]))
theorem eqByteSS_ev (l : List (List Int)) (hl : Sm2 l) : Ev (fun k => laws_eqByteSS.f k l l) true := by
  have hl1 := hl.1
  unfold laws_eqByteSS.f
  have := Ev.all l [] (fun _ => true) (fun k i => laws_eqByteSS.l8 k l l i) true (fun _ => Ev.step (by simp only [laws_eqByteSS.l8]; exact Ev.ite_neg (by omega) (Ev.ret _))) (fun i hi v hv => Ev.step (by
    simp only [laws_eqByteSS.l8, wrap_succ hi (by omega), Bool.true_and]
    exact Ev.ite_pos (lt_in hi) (Ev.ite_pos ge_0 (Ev.ite_pos (lt_in hi) (Ev.ite_pos ge_0 (Ev.ite_pos (lt_in hi) (Ev.bind (eqByteS_ev _ (hl.2 _ (getD_mem hi))) (Ev.ite_pos rfl hv)))))))) (fun _ _ h => by cases h)
  exact Ev.ite_pos rfl (Ev.cast this (by simp [List.all_eq_true]))
theorem eqByteSSS_ev (l : List (List (List Int))) (hl : Sm3 l) : Ev (fun k => laws_eqByteSSS.f k l l) true := by
  have hl1 := hl.1
  unfold laws_eqByteSSS.f
  have := Ev.all l [] (fun _ => true) (fun k i => laws_eqByteSSS.l8 k l l i) true (fun _ => Ev.step (by simp only [laws_eqByteSSS.l8]; exact Ev.ite_neg (by omega) (Ev.ret _))) (fun i hi v hv => Ev.step (by
    simp only [laws_eqByteSSS.l8, wrap_succ hi (by omega), Bool.true_and]
    exact Ev.ite_pos (lt_in hi) (Ev.ite_pos ge_0 (Ev.ite_pos (lt_in hi) (Ev.ite_pos ge_0 (Ev.ite_pos (lt_in hi) (Ev.bind (eqByteSS_ev _ (hl.2 _ (getD_mem hi))) (Ev.ite_pos rfl hv)))))))) (fun _ _ h => by cases h)
  exact Ev.ite_pos rfl (Ev.cast this (by simp [List.all_eq_true]))

/-! ### Images -/
/-- Each image is as long as its window. -/
def fitW (im : List (List Int)) (ws : List S131) : Nat → Bool := fun i => decide ((((im.getD i []).length : Nat) : Int) = (ws.getD i z131).f1)
def fitB (t : S42) (p : Int) (im : List (List Int)) : Bool :=
  inB p 0 (wrap64 ((t.f7.length : Int) - 1)) && (decide (im.length = (t.f7.getD p.toNat z128).f3.length) && (List.range im.length).all (fitW im (t.f7.getD p.toNat z128).f3))
theorem specFits (t : S42) (hs : Small t) (p : Int) (im : List (List Int)) (him : im.length ≤ 1048576) : Ev (fun k => spec_l17Fits.f k t p im) (fitB t p im) := by
  unfold spec_l17Fits.f fitB
  have hp := hs.parts
  rw [l01In_some, wrap_of (by omega) (by omega)]
  simp only [Option.bind_some]
  refine Ev.and_true fun h => ?_
  rw [in_iff] at h
  refine Ev.ite_pos h.1 (Ev.ite_pos (by omega) ?_)
  have hr : rd_T128 t.f7 p = t.f7.getD p.toNat z128 := rfl
  rw [hr]
  by_cases e : im.length = (t.f7.getD p.toNat z128).f3.length
  · refine Ev.ite_pos (by omega) ?_
    rw [decide_eq_true e, Bool.true_and]
    have := Ev.allN im.length (fitW im (t.f7.getD p.toNat z128).f3) (fun k i => spec_l17Fits.l8 k p im i t) true (Ev.step (by simp only [spec_l17Fits.l8]; exact Ev.ite_neg (by omega) (Ev.ret _))) (fun i hi v hv => Ev.step (by
      have h1 : rd_ListInt im (i : Int) = im.getD i [] := rfl
      have h2 : rd_T131 (t.f7.getD p.toNat z128).f3 (i : Int) = (t.f7.getD p.toNat z128).f3.getD i z131 := rfl
      simp only [spec_l17Fits.l8, hr, h1, h2, wrap_succ hi (by omega)]
      exact Ev.ite_pos (lt_in hi) (Ev.ite_pos ge_0 (Ev.ite_pos (lt_in hi) (Ev.ite_pos h.1 (Ev.ite_pos (by omega) (Ev.ite_pos ge_0 (Ev.ite_pos (by omega) (Ev.and_prop fun _ => hv)))))))))
      im.length 0 (by omega)
    simpa using this
  · refine Ev.ite_neg (by omega) (Ev.cast (Ev.ret _) ?_)
    rw [decide_eq_false e, Bool.false_and]
theorem implFits (t : S42) (hs : Small t) (p : Int) (im : List (List Int)) (him : im.length ≤ 1048576) : Ev (fun k => impl_isImage.f k t p im) (fitB t p im) := by
  unfold impl_isImage.f fitB
  have hp := hs.parts
  rw [within_some, wrap_of (by omega) (by omega)]
  simp only [Option.bind_some]
  refine Ev.and_true fun h => ?_
  rw [in_iff] at h
  refine Ev.ite_pos h.1 (Ev.ite_pos (by omega) ?_)
  have hr : rd_T128 t.f7 p = t.f7.getD p.toNat z128 := rfl
  rw [hr]
  by_cases e : im.length = (t.f7.getD p.toNat z128).f3.length
  · refine Ev.ite_pos (by omega) (Ev.ite_pos h.1 (Ev.ite_pos (by omega) ?_))
    rw [decide_eq_true e, Bool.true_and, ← e]
    have := Ev.allN im.length (fitW im (t.f7.getD p.toNat z128).f3) (fun k i => impl_isImage.l8 k im (t.f7.getD p.toNat z128).f3 (im.length : Int) i) true (Ev.step (by simp only [impl_isImage.l8]; exact Ev.ite_neg (by omega) (Ev.ret _))) (fun i hi v hv => Ev.step (by
      have h1 : rd_ListInt im (i : Int) = im.getD i [] := rfl
      have h2 : rd_T131 (t.f7.getD p.toNat z128).f3 (i : Int) = (t.f7.getD p.toNat z128).f3.getD i z131 := rfl
      simp only [impl_isImage.l8, h1, h2, wrap_succ hi (by omega)]
      exact Ev.ite_pos (lt_in hi) (Ev.ite_pos ge_0 (Ev.ite_pos (by omega) (Ev.ite_pos ge_0 (Ev.ite_pos (lt_in hi) (Ev.and_prop fun _ => hv)))))))
      im.length 0 (by omega)
    simpa using this
  · refine Ev.ite_neg (by omega) (Ev.cast (Ev.ret _) ?_)
    rw [decide_eq_false e, Bool.false_and]
end Go.Proofs.YtgagpmiooeoodaaGreat.PTwo
