/- Plain Lean over the printed functions: both Influence come to the same, and so the law's function answers true. -/
import Derived.Test.YtebjmogdananjaaB9
set_option linter.unusedVariables false
set_option linter.unusedSimpArgs false
namespace Go.Proofs.Ytebjmogdananjaa.PAll
open Go Go.RowKit Go.Proofs.Ytebjmogdananjaa.A Go.Proofs.Ytebjmogdananjaa.B

theorem contains_ev (s : List Int) (hs : s.length ≤ 1048576) (x : Int) : Ev (fun k => slices_Contains_54.f k s x) (decide (x ∈ s)) := by
  unfold slices_Contains_54.f slices_Index_116.f
  refine Ev.bind (a := idxOf (fun y => decide (x = y)) s 0) ?_ (Ev.cast (Ev.ret _) ?_)
  · refine Ev.idx s 0 _ (fun k i => slices_Index_116.l4 k s x (s.length : Int) i) (Ev.step ?_) (fun i hi hp => Ev.step ?_) (fun i hi hp v hv => Ev.step ?_)
    · simp only [slices_Index_116.l4]; exact Ev.ite_neg (by omega) (Ev.ret _)
    all_goals
      have hr : rd s (i : Int) = s.getD i 0 := rfl
      simp only [slices_Index_116.l4, hr, wrap_succ hi (by omega)]
      refine Ev.ite_pos (lt_in hi) (Ev.ite_pos ge_0 (Ev.ite_pos (lt_in hi) ?_))
    · exact Ev.ite_pos (of_decide_eq_true hp) (Ev.ret _)
    · exact Ev.ite_neg (of_decide_eq_false hp) hv
  · rw [decide_eq_decide, idxOf_ge _ _ _ (Int.le_refl 0), List.any_eq_true]
    constructor
    · rintro ⟨y, hy, e⟩
      rw [decide_eq_true_eq] at e
      rw [e]; exact hy
    · intro h
      exact ⟨x, h, by simp⟩
theorem inf_both (t : S33) (q p : Int) (hs : Small t) (hnm : ∀ x ∈ t.f7, x.f0.size ≤ 9223372036854775807) : ∃ v, Ev (fun k => impl_Influence.f k t q p) v ∧ Ev (fun k => spec_Influence.f k t q p) v := by
  have hlen : (joinedV t p).length ≤ 1048576 := by
    unfold joinedV
    split
    · rename_i h
      split
      · have := closure_len h p; omega
      · simp
    · simp
  refine ⟨decide (q ∈ joinedV t p), ?_, ?_⟩
  · unfold impl_Influence.f
    refine Ev.bind (implSound t hs hnm) ?_
    unfold joinedV at *
    refine Ev.ite_both (fun hb => ?_) (fun hb => Ev.cast (Ev.ret _) (by rw [if_neg hb]; simp))
    obtain ⟨h1, h2, h3, h4⟩ := sound_chans hb
    rw [if_pos hb] at hlen
    rw [if_pos hb, wrap_of (by omega) (by omega)]
    simp only [within_some, Option.bind_some]
    refine Ev.ite_both (fun hp => ?_) (fun hp => Ev.cast (Ev.ret _) (by rw [if_neg hp]; simp))
    rw [if_pos hp] at hlen
    rw [if_pos hp]
    have hp' := in_iff.1 hp
    exact Ev.bind (implJoined hb p (by omega)) (Ev.bind (contains_ev _ hlen q) (Ev.ret _))
  · unfold spec_Influence.f
    exact Ev.bind (specJoined t hs hnm p) (Ev.bind (has_ev _ hlen q) (Ev.ret _))
theorem names_in' (t : S66) (h : Fits T66 t) : ∀ x ∈ t.f7, x.f0.size ≤ 9223372036854775807 := fun x hx => by
  have := h.2.2.2.2.2.2.2.1.2 x hx
  have h1 : x.f0.size ≤ maxLen := this.1
  have hm : maxLen ≤ 9223372036854775807 := by unfold maxLen; omega
  omega
theorem pure_FnExactInfluence : ∀ (x0 : T66.den) (x1 x2 : Int), Fits T66 x0 → Fits (.int .i64) x1 → Fits (.int .i64) x2 → ∃ k, laws_FnExactInfluence.c.fn k (x0, x1, x2, ()) = some true := by
  intro t q p h _ _
  refine Ev.get (g := fun k => laws_FnExactInfluence.f k t q p) ?_
  obtain ⟨v, hv, hb⟩ := szTables_ev t h
  unfold laws_FnExactInfluence.f
  refine Ev.bind hv ?_
  by_cases c : v < 0
  · exact Ev.ite_pos c (Ev.ret _)
  · have hs := hb (by omega)
    have ht := toTables_ev t hs
    obtain ⟨u, h1, h2⟩ := inf_both t q p hs (names_in' t h)
    exact Ev.ite_neg c (Ev.bind ht (Ev.bind h2 (Ev.bind ht (Ev.bind h1 (Ev.ite_pos (by simp) (Ev.bind ht (Ev.bind (eqTables_ev t hs) (Ev.ite_pos rfl (Ev.ret _)))))))))
end Go.Proofs.Ytebjmogdananjaa.PAll
