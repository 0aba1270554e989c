/- Plain Lean over the printed functions: both ImagesOk come to the same, and so the law's function answers true. -/
import Derived.Test.YtgagpmiooeoodaaGreatB11
set_option linter.unusedVariables false
set_option linter.unusedSimpArgs false
namespace Go.Proofs.YtgagpmiooeoodaaGreat.PAll
open Go Go.RowKit Go.Proofs.YtgagpmiooeoodaaGreat.A Go.Proofs.YtgagpmiooeoodaaGreat.B

theorem images_both (t : S42) (l : List (List (List Int))) (hs : Small t) (hl : Sm3 l) (hnm : ∀ x ∈ t.f7, x.f0.size ≤ 9223372036854775807) : ∃ v, Ev (fun k => impl_ImagesOk.f k t l) v ∧ Ev (fun k => spec_ImagesOk.f k t l) v := by
  have hl1 := hl.1
  refine ⟨soundB t && (decide (l.length = t.f7.length) && (List.range l.length).all fun i => fitB t (i : Int) (l.getD i [])), ?_, ?_⟩
  · unfold impl_ImagesOk.f impl_areImages.f
    refine Ev.bind (implSound t hs hnm) (Ev.and_true fun _ => Ev.bind ?_ (Ev.ret _))
    by_cases e : l.length = t.f7.length
    · refine Ev.ite_pos (by omega) ?_
      rw [decide_eq_true e, Bool.true_and]
      have := Ev.allN l.length (fun i => fitB t (i : Int) (l.getD i [])) (fun k i => impl_areImages.l8 k l (l.length : Int) i t) true (Ev.step (by simp only [impl_areImages.l8]; exact Ev.ite_neg (by omega) (Ev.ret _))) (fun i hi v hv => Ev.step (by
        have h1 : rd_ListListInt l (i : Int) = l.getD i [] := rfl
        simp only [impl_areImages.l8, h1, wrap_succ hi (by omega)]
        exact Ev.ite_pos (lt_in hi) (Ev.ite_pos ge_0 (Ev.ite_pos (lt_in hi) (Ev.bind (implFits t hs _ _ (hl.2 _ (getD_mem hi)).1) (Ev.and_true fun _ => hv))))))
        l.length 0 (by omega)
      simpa using this
    · refine Ev.ite_neg (by omega) (Ev.cast (Ev.ret _) ?_)
      rw [decide_eq_false e, Bool.false_and]
  · unfold spec_ImagesOk.f
    refine Ev.bind (specSound t hs hnm) (Ev.and_true fun _ => ?_)
    by_cases e : l.length = t.f7.length
    · refine Ev.ite_pos (by omega) ?_
      rw [decide_eq_true e, Bool.true_and]
      have := Ev.allN l.length (fun i => fitB t (i : Int) (l.getD i [])) (fun k i => spec_ImagesOk.l8 k l i t) true (Ev.step (by simp only [spec_ImagesOk.l8]; exact Ev.ite_neg (by omega) (Ev.ret _))) (fun i hi v hv => Ev.step (by
        have h1 : rd_ListListInt l (i : Int) = l.getD i [] := rfl
        simp only [spec_ImagesOk.l8, h1, wrap_succ hi (by omega)]
        exact Ev.ite_pos (lt_in hi) (Ev.ite_pos ge_0 (Ev.ite_pos (lt_in hi) (Ev.bind (specFits t hs _ _ (hl.2 _ (getD_mem hi)).1) (Ev.and_true fun _ => hv))))))
        l.length 0 (by omega)
      simpa using this
    · refine Ev.ite_neg (by omega) (Ev.cast (Ev.ret _) ?_)
      rw [decide_eq_false e, Bool.false_and]
theorem pure_FnExactImagesOk : ∀ (x0 : T31.den) (x1 : List (List (List Int))), Fits T31 x0 → Fits (.sl (.sl (.sl (.int .u8)))) x1 → ∃ k, laws_FnExactImagesOk.c.fn k (x0, x1, ()) = some true := by
  intro t l h hl
  refine Ev.get (g := fun k => laws_FnExactImagesOk.f k t l) ?_
  obtain ⟨v, hv, hb⟩ := szTables_ev' t h
  unfold laws_FnExactImagesOk.f
  refine Ev.bind hv ?_
  by_cases c : v < 0
  · exact Ev.ite_pos c (Ev.ret _)
  · refine Ev.ite_neg c ?_
    obtain ⟨hs, hle⟩ := hb (by omega)
    obtain ⟨v2, hv2, hle2, hb2⟩ := szByteSSS_v l (fit_big3 hl) v (by omega) hle
    refine Ev.bind hv2 ?_
    by_cases c2 : v2 < 0
    · exact Ev.ite_pos c2 (Ev.ret _)
    · refine Ev.ite_neg c2 ?_
      have hsl := hb2 (by omega)
      have ht := toTables_ev t hs
      have hl' := toByteSSS_ev l hsl
      obtain ⟨u, h1, h2⟩ := images_both t l hs hsl (names_fit t h)
      exact Ev.bind ht (Ev.bind hl' (Ev.bind h2 (Ev.bind ht (Ev.bind hl' (Ev.bind h1 (Ev.ite_pos (by simp) (Ev.bind ht (Ev.bind (eqTables_ev t hs) (Ev.ite_pos rfl (Ev.bind hl' (Ev.bind (eqByteSSS_ev l hsl) (Ev.ite_pos rfl (Ev.ret _)))))))))))))
end Go.Proofs.YtgagpmiooeoodaaGreat.PAll
