/- Plain Lean over the printed functions: spans that are marked; lists that are compared. -/
import Derived.Test.YtfmbebgpbgcpeaaC13
set_option linter.unusedVariables false
set_option linter.unusedSimpArgs false
namespace Go.Proofs.Ytfmbebgpbgcpeaa.PDr
open Go Go.RowKit Go.Proofs.Ytfmbebgpbgcpeaa.V Go.Proofs.Ytfmbebgpbgcpeaa.C

/-- A loop that compares two lists of one length. -/
theorem eqloop {α : Type} [DecidableEq α] (z : α) (a b : List α) (hab : a.length = b.length) (L : Nat → Int → Option Bool) (hend : Ev (fun k => L k (a.length : Int)) true)
    (hyes : ∀ i, i < a.length → a.getD i z = b.getD i z → ∀ v, Ev (fun k => L k ((i + 1 : Nat) : Int)) v → Ev (fun k => L k (i : Int)) v) (hno : ∀ i, i < a.length → ¬ a.getD i z = b.getD i z → Ev (fun k => L k (i : Int)) false) : Ev (fun k => L k 0) (decide (a = b)) := by
  have key : ∀ (m i : Nat), i + m = a.length → Ev (fun k => L k (i : Int)) (decide (a.drop i = b.drop i)) := by
    intro m
    induction m with
    | zero =>
      intro i hi
      obtain rfl : i = a.length := by omega
      rw [List.drop_of_length_le (Nat.le_refl _), List.drop_of_length_le (by omega)]
      simpa using hend
    | succ m ih =>
      intro i hi
      rw [Ev.drop_getD a z i (by omega), Ev.drop_getD b z i (by omega)]
      by_cases e : a.getD i z = b.getD i z
      · refine Ev.cast (hyes i (by omega) e _ (ih (i + 1) (by omega))) ?_
        simp only [decide_eq_decide, List.cons.injEq, e, true_and]
      · refine Ev.cast (hno i (by omega) e) ?_
        simp only [List.cons.injEq, e, false_and, decide_false]
  have := key a.length 0 (by omega)
  simpa using this

def okB (want list : List S73) : Bool := decide (want ≠ []) && decide (want = list)
theorem implSpansOk_ev (t : S33) (hs : Small t) (hnm : ∀ x ∈ t.f7, x.f0.size ≤ 9223372036854775807) (a b : Int) (l : List S73) : Ev (fun k => impl_SpansOk.f k t a b l) (okB (spansV t a b) l) := by
  unfold impl_SpansOk.f
  refine Ev.bind (implSpans_ev t hs hnm a b) ?_
  have hlen := spansV_len t a b
  unfold okB
  by_cases c0 : spansV t a b = []
  · exact Ev.ite_neg (by simp [c0]) (Ev.cast (Ev.ret _) (by simp [c0]))
  have hp : 0 < (spansV t a b).length := List.length_pos_iff.2 c0
  refine Ev.ite_pos (by omega) (Ev.bind (a := decide (spansV t a b = l)) ?_ (Ev.cast (Ev.ret _) (by simp [c0])))
  unfold slices_Equal_93.f
  by_cases c1 : (spansV t a b).length = l.length
  · refine Ev.ite_pos (by omega) (eqloop z73 (spansV t a b) l c1 (fun k i => slices_Equal_93.l8 k (spansV t a b) l ((spansV t a b).length : Int) i) (Ev.step ?_) (fun i hi he v hv => Ev.step ?_) (fun i hi he => Ev.step ?_))
    · simp only [slices_Equal_93.l8]
      exact Ev.ite_neg (by omega) (Ev.ret _)
    all_goals
      simp only [slices_Equal_93.l8, wrap_succ hi (by omega), rd_T73, Int.toNat_natCast]
      refine Ev.ite_pos (lt_in hi) (Ev.ite_pos ge_0 (Ev.ite_pos (lt_in hi) (Ev.ite_pos ge_0 (Ev.ite_pos (by omega) ?_))))
    · exact Ev.ite_pos he hv
    · exact Ev.ite_neg he (Ev.ret _)
  · exact Ev.ite_neg (by omega) (Ev.cast (Ev.ret _) (by
      have : ¬ spansV t a b = l := fun e => c1 (by rw [e])
      simp [this]))
end Go.Proofs.Ytfmbebgpbgcpeaa.PDr
