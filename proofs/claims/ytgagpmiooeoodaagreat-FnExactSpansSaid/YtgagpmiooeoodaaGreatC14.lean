/- Plain Lean over the printed functions: spans that are marked; lists that are compared. -/
import Derived.Test.YtgagpmiooeoodaaGreatC13
set_option linter.unusedVariables false
set_option linter.unusedSimpArgs false
namespace Go.Proofs.YtgagpmiooeoodaaGreat.PTwo
open Go Go.RowKit Go.Proofs.YtgagpmiooeoodaaGreat.V Go.Proofs.YtgagpmiooeoodaaGreat.C

def fSp (x : Int) (a : S96) : S96 := (x, x + 1, x + 1 + 1, x + 1 + 1 + 1)
theorem markSpanS_ev (l : List S96) (hl : l.length ≤ 1048576) (x : Int) (hx : 0 ≤ x) (hB : x + mks (fun _ => 4) l ≤ BB) : Ev (fun k => laws_markSpanS_o1.f k x l) (x + mks (fun _ => 4) l, mkl fSp (fun _ => 4) x l) := by
  have := marks_ev (fun _ => 4) (by simp) fSp BB laws_markSpanS_o1.l4 (fun x l => Ev.step (by simp only [laws_markSpanS_o1.l4]; exact Ev.ite_neg (by omega) (Ev.ret _))) (fun pre a suf x h0 h1 h2 v hv => Ev.step (by
    simp only [laws_markSpanS_o1.l4, rd_T96, get_mid, set_mid, succ_mid h0, wrap_in (show 0 ≤ x + 1 by omega) (by omega), wrap_in (show 0 ≤ x + 1 + 1 by omega) (by omega), wrap_in (show 0 ≤ x + 1 + 1 + 1 by omega) (by omega), wrap_in (show 0 ≤ x + 1 + 1 + 1 + 1 by omega) (by omega)]
    rw [show x + 4 = x + 1 + 1 + 1 + 1 by omega] at hv
    exact Ev.ite_pos (lt_mid ..) (Ev.ite_pos ge_0 (Ev.ite_pos (lt_mid ..) (Ev.ite_pos ge_0 (Ev.ite_pos (lt_mid ..) (Ev.ite_pos ge_0 (Ev.ite_pos (lt_mid ..) (Ev.ite_pos ge_0 (Ev.ite_pos (lt_mid ..) hv)))))))))) l [] x (by simpa using hl) hx hB
  simpa [laws_markSpanS_o1.f] using this
theorem heldSpanS_ev (l : List S96) (hl : l.length ≤ 1048576) (x : Int) (hx : 0 ≤ x) (hB : x + mks (fun _ => 4) l ≤ BB) : Ev (fun k => laws_heldSpanS.f k (mkl fSp (fun _ => 4) x l) x) (x + mks (fun _ => 4) l) := by
  have := held_ev (fun _ => 4) (by simp) fSp BB laws_heldSpanS.l4 (fun x l => Ev.step (by simp only [laws_heldSpanS.l4]; exact Ev.ite_neg (by omega) (Ev.ret _))) (fun pre a suf x h0 h1 h2 v hv => Ev.step (by
    simp only [laws_heldSpanS.l4, rd_T96, get_mid, succ_mid h0, wrap_in (show 0 ≤ x + 1 by omega) (by omega), wrap_in (show 0 ≤ x + 1 + 1 by omega) (by omega), wrap_in (show 0 ≤ x + 1 + 1 + 1 by omega) (by omega), wrap_in (show 0 ≤ x + 1 + 1 + 1 + 1 by omega) (by omega)]
    rw [show x + 4 = x + 1 + 1 + 1 + 1 by omega] at hv
    exact Ev.ite_pos (lt_mid ..) (Ev.ite_pos ge_0 (Ev.ite_pos (lt_mid ..) (Ev.ite_pos rfl (Ev.ite_pos ge_0 (Ev.ite_pos (lt_mid ..) (Ev.ite_pos rfl (Ev.ite_pos ge_0 (Ev.ite_pos (lt_mid ..) (Ev.ite_pos rfl (Ev.ite_pos ge_0 (Ev.ite_pos (lt_mid ..) (Ev.ite_pos rfl hv)))))))))))))) l [] x (by simpa using hl) hx hB
  simpa [laws_heldSpanS.f] using this

/-- A loop that compares two lists of one length. -/
theorem eqloop {α : Type} [DecidableEq α] (z : α) (a b : List α) (hab : a.length = b.length) (L : Nat → Int → Option Bool) (hend : Ev (fun k => L k (a.length : Int)) true)
    (hyes : ∀ i, i < a.length → a.getD i z = b.getD i z → ∀ v, Ev (fun k => L k ((i + 1 : Nat) : Int)) v → Ev (fun k => L k (i : Int)) v) (hno : ∀ i, i < a.length → ¬ a.getD i z = b.getD i z → Ev (fun k => L k (i : Int)) false) : Ev (fun k => L k 0) (decide (a = b)) := by
  have key : ∀ (m i : Nat), i + m = a.length → Ev (fun k => L k (i : Int)) (decide (a.drop i = b.drop i)) := by
    intro m
    induction m with
    | zero =>
      intro i hi
      obtain rfl : i = a.length := by omega
      rw [List.drop_of_length_le (Nat.le_refl _), List.drop_of_length_le (by omega)]
      simpa using hend
    | succ m ih =>
      intro i hi
      rw [Ev.drop_getD a z i (by omega), Ev.drop_getD b z i (by omega)]
      by_cases e : a.getD i z = b.getD i z
      · refine Ev.cast (hyes i (by omega) e _ (ih (i + 1) (by omega))) ?_
        simp only [decide_eq_decide, List.cons.injEq, e, true_and]
      · refine Ev.cast (hno i (by omega) e) ?_
        simp only [List.cons.injEq, e, false_and, decide_false]
  have := key a.length 0 (by omega)
  simpa using this

def okB (want list : List S96) : Bool := decide (want ≠ []) && decide (want = list)
theorem specSpansOk_ev (t : S42) (hs : Small t) (hnm : ∀ x ∈ t.f7, x.f0.size ≤ 9223372036854775807) (a b : Int) (l : List S96) : Ev (fun k => spec_SpansOk.f k t a b l) (okB (spansV t a b) l) := by
  unfold spec_SpansOk.f
  refine Ev.bind (specSpans_ev t hs hnm a b) ?_
  have hlen := spansV_len t a b
  unfold okB
  by_cases c0 : spansV t a b = []
  · exact Ev.ite_pos (by simp [c0]) (Ev.cast (Ev.ret _) (by simp [c0]))
  have hp : 0 < (spansV t a b).length := List.length_pos_iff.2 c0
  refine Ev.ite_neg (by omega) ?_
  by_cases c1 : (spansV t a b).length = l.length
  · refine Ev.ite_pos (by omega) (Ev.cast (eqloop z96 (spansV t a b) l c1 (fun k i => spec_SpansOk.l10 k l i (spansV t a b)) (Ev.step ?_) (fun i hi he v hv => Ev.step ?_) (fun i hi he => Ev.step ?_)) (by simp [c0]))
    · simp only [spec_SpansOk.l10]
      exact Ev.ite_neg (by omega) (Ev.ret _)
    all_goals
      simp only [spec_SpansOk.l10, wrap_succ hi (by omega), rd_T96, Int.toNat_natCast]
      refine Ev.ite_pos (lt_in hi) (Ev.ite_pos ge_0 (Ev.ite_pos (lt_in hi) (Ev.ite_pos ge_0 (Ev.ite_pos (by omega) ?_))))
    · exact Ev.ite_pos he hv
    · exact Ev.ite_neg he (Ev.ret _)
  · exact Ev.ite_neg (by omega) (Ev.cast (Ev.ret _) (by
      have : ¬ spansV t a b = l := fun e => c1 (by rw [e])
      simp [this]))
theorem implSpansOk_ev (t : S42) (hs : Small t) (hnm : ∀ x ∈ t.f7, x.f0.size ≤ 9223372036854775807) (a b : Int) (l : List S96) : Ev (fun k => impl_SpansOk.f k t a b l) (okB (spansV t a b) l) := by
  unfold impl_SpansOk.f
  refine Ev.bind (implSpans_ev t hs hnm a b) ?_
  have hlen := spansV_len t a b
  unfold okB
  by_cases c0 : spansV t a b = []
  · exact Ev.ite_neg (by simp [c0]) (Ev.cast (Ev.ret _) (by simp [c0]))
  have hp : 0 < (spansV t a b).length := List.length_pos_iff.2 c0
  refine Ev.ite_pos (by omega) (Ev.bind (a := decide (spansV t a b = l)) ?_ (Ev.cast (Ev.ret _) (by simp [c0])))
  unfold slices_Equal_100.f
  by_cases c1 : (spansV t a b).length = l.length
  · refine Ev.ite_pos (by omega) (eqloop z96 (spansV t a b) l c1 (fun k i => slices_Equal_100.l8 k (spansV t a b) l ((spansV t a b).length : Int) i) (Ev.step ?_) (fun i hi he v hv => Ev.step ?_) (fun i hi he => Ev.step ?_))
    · simp only [slices_Equal_100.l8]
      exact Ev.ite_neg (by omega) (Ev.ret _)
    all_goals
      simp only [slices_Equal_100.l8, wrap_succ hi (by omega), rd_T96, Int.toNat_natCast]
      refine Ev.ite_pos (lt_in hi) (Ev.ite_pos ge_0 (Ev.ite_pos (lt_in hi) (Ev.ite_pos ge_0 (Ev.ite_pos (by omega) ?_))))
    · exact Ev.ite_pos he hv
    · exact Ev.ite_neg he (Ev.ret _)
  · exact Ev.ite_neg (by omega) (Ev.cast (Ev.ret _) (by
      have : ¬ spansV t a b = l := fun e => c1 (by rw [e])
      simp [this]))
end Go.Proofs.YtgagpmiooeoodaaGreat.PTwo
