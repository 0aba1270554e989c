/- Plain Lean over the printed functions: both Joined come to the same, what comes back is nobody else's, and so the law's function answers true. -/
import Derived.Test.YtgagpmiooeoodaaGreatC9
import Derived.Test.YtgagpmiooeoodaaGreatC12
set_option linter.unusedVariables false
set_option linter.unusedSimpArgs false
namespace Go.Proofs.YtgagpmiooeoodaaGreat.PTwo
open Go Go.RowKit Go.Proofs.YtgagpmiooeoodaaGreat.V Go.Proofs.YtgagpmiooeoodaaGreat.C

theorem joinedV_len (t : S42) (p : Int) : (joinedV t p).length ≤ 6 := by
  unfold joinedV
  split
  · rename_i h
    split
    · exact closure_len h p
    · simp
  · simp
theorem implJoined_ev (t : S42) (hs : Small t) (hnm : ∀ x ∈ t.f7, x.f0.size ≤ 9223372036854775807) (p : Int) : Ev (fun k => impl_Joined.f k t p) (joinedV t p) := by
  unfold impl_Joined.f
  refine Ev.bind (implSound t hs hnm) ?_
  unfold joinedV
  refine Ev.ite_both (fun hb => ?_) (fun hb => Ev.cast (Ev.ret _) (by rw [if_neg hb]))
  obtain ⟨h1, h2, h3, h4⟩ := sound_chans hb
  rw [if_pos hb, wrap_of (by omega) (by omega)]
  simp only [within_some, Option.bind_some]
  refine Ev.ite_both (fun hp => ?_) (fun hp => Ev.cast (Ev.ret _) (by rw [if_neg hp]))
  rw [if_pos hp]
  have hp' := in_iff.1 hp
  exact Ev.bind (implJoined hb p (by omega)) (Ev.ret _)
theorem names_in' (t : S31) (h : Fits T31 t) : ∀ x ∈ t.f7, x.f0.size ≤ 9223372036854775807 := fun x hx => by
  have := h.2.2.2.2.2.2.2.1.2 x hx
  have h1 : x.f0.size ≤ maxLen := this.1
  have hm : maxLen ≤ 9223372036854775807 := by unfold maxLen; omega
  omega
theorem pure_FnExactJoined : ∀ (x0 : T31.den) (x1 : Int), Fits T31 x0 → Fits (.int .i64) x1 → ∃ k, laws_FnExactJoined.c.fn k (x0, x1, ()) () = some true := by
  intro t p h _
  refine Ev.get (g := fun k => laws_FnExactJoined.f k t p) ?_
  obtain ⟨v, hv, hb⟩ := szTables_ev t h
  unfold laws_FnExactJoined.f
  refine Ev.bind hv ?_
  by_cases c : v < 0
  · exact Ev.ite_pos c (Ev.ret _)
  have hs := hb (by omega)
  have hnm := names_in' t h
  have ht := toTables_ev t hs
  have hl := joinedV_len t p
  have hi := implJoined_ev t hs hnm p
  have he : Ev (fun k => laws_eqIntS.f k (joinedV t p) (joinedV t p)) true := eqIntS_ev _ (by omega)
  obtain ⟨m, hm, hm0, _⟩ := markTables_ev t hs
  have hB : (1 : Int) + mks (fun _ => 1) (joinedV t p) ≤ BB := by rw [mks_const]; unfold BB; omega
  have h0 : (0 : Int) ≤ mks (fun _ => 1) (joinedV t p) := by rw [mks_const]; omega
  have hk := markIntS_ev (joinedV t p) (by omega) 1 (by omega) hB
  have hh := heldIntS_ev (joinedV t p) (by omega) 1 (by omega) hB
  refine Ev.ite_neg c (Ev.bind ht (Ev.bind (specJoined t hs hnm p) (Ev.bind ht (Ev.bind hi (Ev.bind he (Ev.ite_pos rfl (Ev.bind ht (Ev.bind (eqTables_ev t hs) (Ev.ite_pos rfl (Ev.bind hm (Ev.ite_neg (by omega) (Ev.bind he (Ev.ite_pos rfl (Ev.bind hk (Ev.bind hh (Ev.ite_neg ?_ (Ev.ite_pos ?_ (Ev.bind ht (Ev.bind hi (Ev.bind he (Ev.ite_pos rfl (Ev.bind hh (Ev.ite_neg ?_ (Ev.ite_pos ?_ (Ev.ret _)))))))))))))))))))))))))
  all_goals first | rfl | omega
end Go.Proofs.YtgagpmiooeoodaaGreat.PTwo
