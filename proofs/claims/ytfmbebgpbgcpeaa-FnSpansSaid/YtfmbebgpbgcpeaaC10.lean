/- Plain Lean over the printed functions: spans (sizes, conversions, equality), who holds a cycle (both come to the same). -/
import Derived.Test.YtfmbebgpbgcpeaaC7
set_option linter.unusedVariables false
set_option linter.unusedSimpArgs false
namespace Go.Proofs.Ytfmbebgpbgcpeaa.PDr
open Go Go.RowKit Go.Proofs.Ytfmbebgpbgcpeaa.V Go.Proofs.Ytfmbebgpbgcpeaa.C

/-- What sound tables say of their slots. -/
theorem sound_spans {t : S33} (h : soundB t = true) : SpansIn t ∧ slotsL t t.f10 0 = true ∧ t.f10.length ≤ 16 ∧ 1 ≤ t.f10.length := by
  simp only [soundB, slotsB, Bool.and_eq_true, in_iff] at h
  exact ⟨(head_in h.1).2.2, h.2.2.2.1, by omega, by omega⟩

/-- The phase and the partition at a cycle of the frame. -/
def whoV (t : S33) (c : Int) : Int × Int := if slotB t.f10 c < 0 then (0, -1) else (phaseV t c, (t.f10.getD (slotB t.f10 c).toNat z61).f0)
theorem specWho (t : S33) (hS : t.f10.length ≤ 1048576) (hm : ¬ t.f6 = 0) (c : Int) : Ev (fun k => spec_l24Who.f k t c) (whoV t (c.tmod t.f6)) := by
  unfold spec_l24Who.f
  refine Ev.bind (slot_ev t hS hm c) ?_
  by_cases h : slotB t.f10 (c.tmod t.f6) < 0
  · exact Ev.ite_pos h (Ev.cast (Ev.ret _) (by rw [whoV, if_pos h]))
  · have hb := slotB_bound t.f10 _ h
    exact Ev.ite_neg h (Ev.ite_pos hb.1 (Ev.ite_pos hb.2 (Ev.bind (phase_ev t hS hm c) (Ev.cast (Ev.ret _) (by rw [whoV, if_neg h])))))
theorem slotAt1_some (x : S61) (c : Int) : impl_slotAt_1.f x c = some (atB x c) := by
  unfold impl_slotAt_1.f atB
  by_cases h : x.f1 ≤ c
  · rw [if_pos h]
    refine congrArg some (decide_eq_decide.2 ?_)
    exact ⟨fun h2 => ⟨h, h2⟩, fun h2 => h2.2⟩
  · rw [if_neg h]
    refine congrArg some (Eq.symm (decide_eq_false ?_))
    exact fun h2 => h h2.1
theorem implSlot (t : S33) (hS : t.f10.length ≤ 1048576) (hm : ¬ t.f6 = 0) (c : Int) : Ev (fun k => impl_slotAt.f k t c) (slotB t.f10 (c.tmod t.f6)) := by
  unfold impl_slotAt.f slotB
  refine Ev.ite_neg hm (Ev.bind ?_ (Ev.ret _))
  generalize c.tmod t.f6 = c
  unfold slices_IndexFunc_180_181.f
  refine Ev.idx t.f10 z61 _ (fun k i => slices_IndexFunc_180_181.l4 k t.f10 c (t.f10.length : Int) i) (Ev.step ?_) (fun i hi hp => Ev.step ?_) (fun i hi hp v hv => Ev.step ?_)
  · simp only [slices_IndexFunc_180_181.l4]; exact Ev.ite_neg (by omega) (Ev.ret _)
  all_goals
    simp only [slices_IndexFunc_180_181.l4, slotAt1_some, Option.bind_some, wrap_succ hi (by omega)]
    refine Ev.ite_pos (lt_in hi) (Ev.ite_pos ge_0 (Ev.ite_pos (lt_in hi) ?_))
  · exact Ev.ite_pos hp (Ev.ret _)
  · exact Ev.ite_neg (fun h => by rw [show atB (rd_T61 t.f10 (i : Int)) c = false from hp] at h; cases h) hv
theorem implPhase (t : S33) (hS : t.f10.length ≤ 1048576) (hm : ¬ t.f6 = 0) (c : Int) : Ev (fun k => impl_phaseAt.f k t c) (whoV t (c.tmod t.f6)) := by
  unfold impl_phaseAt.f
  refine Ev.bind (implSlot t hS hm c) ?_
  generalize c.tmod t.f6 = c
  by_cases h : slotB t.f10 c < 0
  · exact Ev.ite_pos h (Ev.cast (Ev.ret _) (by rw [whoV, if_pos h]))
  · have hb := slotB_bound t.f10 _ h
    refine Ev.ite_neg h (Ev.ite_pos hb.1 (Ev.ite_pos hb.2 (Ev.ite_neg hm ?_)))
    rw [whoV, if_neg h, phaseV, if_neg h]
    by_cases h1 : wrap64 (c - (t.f10.getD (slotB t.f10 c).toNat z61).f1) < t.f4
    · exact Ev.ite_pos h1 (Ev.cast (Ev.ret _) (by rw [if_pos h1]))
    · refine Ev.ite_neg h1 ?_
      by_cases h2 : wrap64 (c - (t.f10.getD (slotB t.f10 c).toNat z61).f1) ≥ wrap64 ((t.f10.getD (slotB t.f10 c).toNat z61).f2 - t.f5)
      · exact Ev.ite_pos h2 (Ev.cast (Ev.ret _) (by rw [if_neg h1, if_pos h2]))
      · exact Ev.ite_neg h2 (Ev.cast (Ev.ret _) (by rw [if_neg h1, if_neg h2]))
end Go.Proofs.Ytfmbebgpbgcpeaa.PDr
