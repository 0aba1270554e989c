/- Plain Lean over the printed functions: both models read a script alike, what comes back is nobody else's; and so the law's function answers true. -/
import Derived.Test.YtcjfheidmlcbfaaGreatDoorC12
import Derived.Test.YtcjfheidmlcbfaaGreatDoorT8
set_option linter.unusedVariables false
set_option linter.unusedSimpArgs false
set_option linter.unusedSectionVars false
namespace Go.Proofs.YtcjfheidmlcbfaaGreatDoor.PPa
open Go Go.RowKit Go.Proofs.YtcjfheidmlcbfaaGreatDoor.V Go.Proofs.YtcjfheidmlcbfaaGreatDoor.C

theorem names_fitPa (t : S92) (h : Fits T92 t) : ∀ x ∈ t.f7, x.f0.size ≤ 9223372036854775807 := fun x hx => by
  have := h.2.2.2.2.2.2.2.1.2 x hx
  have h1 : x.f0.size ≤ maxLen := this.1
  have hm : maxLen ≤ 9223372036854775807 := by unfold maxLen; omega
  omega
theorem eqCmdS_ev (l : List S85) (hl : l.length ≤ 1048576) : Ev (fun k => laws_eqCmdS.f k l l) true := by
  unfold laws_eqCmdS.f
  have := Ev.all l z85 (fun _ => true) (fun k i => laws_eqCmdS.l8 k l l i) true (fun _ => Ev.step (by simp only [laws_eqCmdS.l8]; exact Ev.ite_neg (by omega) (Ev.ret _))) (fun i hi v hv => Ev.step (by
    simp only [laws_eqCmdS.l8, laws_eqCmd.f, Option.bind_some, wrap_succ hi (by omega), if_true, Bool.true_and]
    exact Ev.ite_pos (lt_in hi) (Ev.ite_pos ge_0 (Ev.ite_pos (lt_in hi) (Ev.ite_pos ge_0 (Ev.ite_pos (lt_in hi) hv)))))) (fun _ _ h => by cases h)
  exact Ev.ite_pos rfl (Ev.cast this (by simp [List.all_eq_true]))
def fCm (x : Int) (a : S85) : S85 := (x, x + 1, IntKind.wrap .u32 (x + 1 + 1))
theorem markCmdS_ev (l : List S85) (hl : l.length ≤ 1048576) (x : Int) (hx : 0 ≤ x) (hB : x + mks (fun _ => 3) l ≤ BB) : Ev (fun k => laws_markCmdS_o1.f k x l) (x + mks (fun _ => 3) l, mkl fCm (fun _ => 3) x l) := by
  have := marks_ev (fun _ => 3) (by simp) fCm BB laws_markCmdS_o1.l4 (fun x l => Ev.step (by simp only [laws_markCmdS_o1.l4]; exact Ev.ite_neg (by omega) (Ev.ret _))) (fun pre a suf x h0 h1 h2 v hv => Ev.step (by
    simp only [laws_markCmdS_o1.l4, rd_T85, get_mid, set_mid, succ_mid h0, wrap_in (show 0 ≤ x + 1 by omega) (by omega), wrap_in (show 0 ≤ x + 1 + 1 by omega) (by omega), wrap_in (show 0 ≤ x + 1 + 1 + 1 by omega) (by omega)]
    rw [show x + 3 = x + 1 + 1 + 1 by omega] at hv
    exact Ev.ite_pos (lt_mid ..) (Ev.ite_pos ge_0 (Ev.ite_pos (lt_mid ..) (Ev.ite_pos ge_0 (Ev.ite_pos (lt_mid ..) (Ev.ite_pos ge_0 (Ev.ite_pos (lt_mid ..) hv)))))))) l [] x (by simpa using hl) hx hB
  simpa [laws_markCmdS_o1.f] using this
theorem heldCmdS_ev (l : List S85) (hl : l.length ≤ 1048576) (x : Int) (hx : 0 ≤ x) (hB : x + mks (fun _ => 3) l ≤ BB) : Ev (fun k => laws_heldCmdS.f k (mkl fCm (fun _ => 3) x l) x) (x + mks (fun _ => 3) l) := by
  have := held_ev (fun _ => 3) (by simp) fCm BB laws_heldCmdS.l4 (fun x l => Ev.step (by simp only [laws_heldCmdS.l4]; exact Ev.ite_neg (by omega) (Ev.ret _))) (fun pre a suf x h0 h1 h2 v hv => Ev.step (by
    simp only [laws_heldCmdS.l4, rd_T85, get_mid, succ_mid h0, wrap_in (show 0 ≤ x + 1 by omega) (by omega), wrap_in (show 0 ≤ x + 1 + 1 by omega) (by omega), wrap_in (show 0 ≤ x + 1 + 1 + 1 by omega) (by omega)]
    rw [show x + 3 = x + 1 + 1 + 1 by omega] at hv
    exact Ev.ite_pos (lt_mid ..) (Ev.ite_pos ge_0 (Ev.ite_pos (lt_mid ..) (Ev.ite_pos rfl (Ev.ite_pos ge_0 (Ev.ite_pos (lt_mid ..) (Ev.ite_pos rfl (Ev.ite_pos ge_0 (Ev.ite_pos (lt_mid ..) (Ev.ite_pos rfl hv))))))))))) l [] x (by simpa using hl) hx hB
  simpa [laws_heldCmdS.f] using this

theorem pure_FnExactParseScript : ∀ (x0 : T92.den) (x1 : ByteArray), Fits T92 x0 → Fits .str x1 → ∃ k, laws_FnExactParseScript.c.fn k (x0, x1, ()) () = some true := by
  intro t s h hl0
  refine Ev.get (g := fun k => laws_FnExactParseScript.f k t s) ?_
  unfold laws_FnExactParseScript.f
  refine Ev.ite_both (fun _ => Ev.ret _) fun hsz => ?_
  obtain ⟨v, hv, hb⟩ := szTables_ev' t h
  refine Ev.bind hv ?_
  by_cases c : v < 0
  · exact Ev.ite_pos c (Ev.ret _)
  obtain ⟨hs, hv1⟩ := hb (by omega)
  have hnm := names_fitPa t h
  have ht := toTables_ev t hs
  refine Ev.ite_neg c ?_
  have hp := specPs t hs hnm s
  have hi := implPs t hs hnm s
  have hc := parseT_len t s
  generalize parseT t s = r at hp hi hc
  have he : Ev (fun k => laws_eqCmdS.f k r.1 r.1) true := eqCmdS_ev _ (by omega)
  obtain ⟨m, hmk, hm0, hm1⟩ := markTables_ev t hs
  have hB : (1 : Int) + mks (fun _ => 3) r.1 ≤ BB := by rw [mks_const]; unfold BB; omega
  have h0 : (0 : Int) ≤ mks (fun _ => 3) r.1 := by rw [mks_const]; omega
  have hk := markCmdS_ev r.1 (by omega) 1 (by omega) hB
  have hh := heldCmdS_ev r.1 (by omega) 1 (by omega) hB
  refine Ev.bind ht (Ev.bind hp (Ev.bind ht (Ev.bind hi (Ev.bind he (Ev.ite_pos rfl (Ev.ite_pos rfl (Ev.ite_pos rfl (Ev.bind ht (Ev.bind (eqTables_ev t hs) (Ev.ite_pos rfl (Ev.bind hmk (Ev.ite_neg (by omega) (Ev.bind he (Ev.ite_pos rfl (Ev.ite_pos rfl (Ev.ite_pos rfl (Ev.bind hk (Ev.bind hh (Ev.ite_neg ?_ (Ev.ite_pos ?_ (Ev.bind ht (Ev.bind hi (Ev.bind he (Ev.ite_pos rfl (Ev.ite_pos rfl (Ev.ite_pos rfl (Ev.bind hh (Ev.ite_neg ?_ (Ev.ite_pos ?_ (Ev.ret _))))))))))))))))))))))))))))))
  all_goals first | rfl | omega | (simp only [mks_const]; omega)
end Go.Proofs.YtcjfheidmlcbfaaGreatDoor.PPa
