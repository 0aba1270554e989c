/- Plain Lean over the printed functions: words and bytes: conversions, equality of what is equal, marks. -/
import Derived.Test.YtfmbebgpbgcpeaaGreatYC12
set_option linter.unusedVariables false
set_option linter.unusedSimpArgs false
set_option linter.unusedSectionVars false
namespace Go.Proofs.YtfmbebgpbgcpeaaGreat.PLi
open Go Go.RowKit Go.Proofs.YtfmbebgpbgcpeaaGreat.V Go.Proofs.YtfmbebgpbgcpeaaGreat.C

theorem toUint32S_ev (l : List Int) (hl : l.length ≤ 1048576) : Ev (fun k => laws_toUint32S.f k l) l := by
  unfold laws_toUint32S.f
  simp only [lenZ_eq]
  refine Ev.ite_pos (by omega) (Ev.ite_pos (by omega) (Ev.ite_pos (by omega) ?_))
  have := Ev.maploop l 0 0 (fun x => x) (fun k i h => laws_toUint32S.l6 k l i h) (fun h hh => Ev.step (by
    simp only [laws_toUint32S.l6, lenZ_eq]; exact Ev.ite_neg (by omega) (Ev.ret _))) fun i hi h hh v hv => Ev.step (by
    simp only [laws_toUint32S.l6, lenZ_eq, wrap_succ hi (by omega)]
    exact Ev.ite_pos (lt_in hi) (Ev.ite_pos ge_0 (Ev.ite_pos (lt_in hi) (Ev.ite_pos ge_0 (Ev.ite_pos (by omega) hv)))))
  simpa using this
theorem eqUint32S_ev (l : List Int) (hl : l.length ≤ 1048576) : Ev (fun k => laws_eqUint32S.f k l l) true := by
  unfold laws_eqUint32S.f
  simp only [lenZ_eq]
  have := Ev.all l 0 (fun _ => true) (fun k i => laws_eqUint32S.l8 k l l i) true (fun _ => Ev.step (by simp only [laws_eqUint32S.l8, lenZ_eq]; exact Ev.ite_neg (by omega) (Ev.ret _))) (fun i hi v hv => Ev.step (by
    simp only [laws_eqUint32S.l8, lenZ_eq, wrap_succ hi (by omega), Bool.true_and]
    exact Ev.ite_pos (lt_in hi) (Ev.ite_pos ge_0 (Ev.ite_pos (lt_in hi) (Ev.ite_pos ge_0 (Ev.ite_pos (lt_in hi) (Ev.ite_pos trivial hv))))))) (fun _ _ h => by cases h)
  exact Ev.ite_pos trivial (Ev.cast this (by simp [List.all_eq_true]))
theorem eqByteS_ev (l : List Int) (hl : l.length ≤ 1048576) : Ev (fun k => laws_eqByteS.f k l l) true := by
  unfold laws_eqByteS.f
  have := Ev.all l 0 (fun _ => true) (fun k i => laws_eqByteS.l8 k l l i) true (fun _ => Ev.step (by simp only [laws_eqByteS.l8]; exact Ev.ite_neg (by omega) (Ev.ret _))) (fun i hi v hv => Ev.step (by
    simp only [laws_eqByteS.l8, wrap_succ hi (by omega), Bool.true_and]
    exact Ev.ite_pos (lt_in hi) (Ev.ite_pos ge_0 (Ev.ite_pos (lt_in hi) (Ev.ite_pos ge_0 (Ev.ite_pos (lt_in hi) (Ev.ite_pos trivial hv))))))) (fun _ _ h => by cases h)
  exact Ev.ite_pos rfl (Ev.cast this (by simp [List.all_eq_true]))
theorem eqByteSS_ev (l : List (List Int)) (hl : l.length ≤ 1048576) (hw : ∀ x ∈ l, x.length ≤ 1048576) : Ev (fun k => laws_eqByteSS.f k l l) true := by
  unfold laws_eqByteSS.f
  have := Ev.all l [] (fun _ => true) (fun k i => laws_eqByteSS.l8 k l l i) true (fun _ => Ev.step (by simp only [laws_eqByteSS.l8]; exact Ev.ite_neg (by omega) (Ev.ret _))) (fun i hi v hv => Ev.step (by
    simp only [laws_eqByteSS.l8, wrap_succ hi (by omega), Bool.true_and]
    exact Ev.ite_pos (lt_in hi) (Ev.ite_pos ge_0 (Ev.ite_pos (lt_in hi) (Ev.ite_pos ge_0 (Ev.ite_pos (lt_in hi) (Ev.bind (eqByteS_ev _ (hw _ (getD_mem hi))) (Ev.ite_pos rfl hv)))))))) (fun _ _ h => by cases h)
  exact Ev.ite_pos rfl (Ev.cast this (by simp [List.all_eq_true]))

def fU (x : Int) (_ : Int) : Int := IntKind.wrap .u32 x
def fB (x : Int) (_ : Int) : Int := IntKind.wrap .u8 x
theorem markUint32S_ev (l : List Int) (hl : l.length ≤ 1048576) (x : Int) (hx : 0 ≤ x) (hB : x + mks (fun _ => 1) l ≤ BB) : Ev (fun k => laws_markUint32S_o1.f k x l) (x + mks (fun _ => 1) l, mkl fU (fun _ => 1) x l) := by
  have := marks_ev (fun _ => 1) (by simp) fU BB laws_markUint32S_o1.l4 (fun x l => Ev.step (by simp only [laws_markUint32S_o1.l4]; exact Ev.ite_neg (by omega) (Ev.ret _))) (fun pre a suf x h0 h1 h2 v hv => Ev.step (by
    simp only [laws_markUint32S_o1.l4, set_mid, succ_mid h0, wrap_in (show 0 ≤ x + 1 by omega) (by omega)]
    exact Ev.ite_pos (lt_mid ..) (Ev.ite_pos ge_0 (Ev.ite_pos (lt_mid ..) hv)))) l [] x (by simpa using hl) hx hB
  simpa [laws_markUint32S_o1.f] using this
theorem markByteS_ev (l : List Int) (hl : l.length ≤ 1048576) (x : Int) (hx : 0 ≤ x) (hB : x + mks (fun _ => 1) l ≤ BB) : Ev (fun k => laws_markByteS_o1.f k x l) (x + mks (fun _ => 1) l, mkl fB (fun _ => 1) x l) := by
  have := marks_ev (fun _ => 1) (by simp) fB BB laws_markByteS_o1.l4 (fun x l => Ev.step (by simp only [laws_markByteS_o1.l4]; exact Ev.ite_neg (by omega) (Ev.ret _))) (fun pre a suf x h0 h1 h2 v hv => Ev.step (by
    simp only [laws_markByteS_o1.l4, set_mid, succ_mid h0, wrap_in (show 0 ≤ x + 1 by omega) (by omega)]
    exact Ev.ite_pos (lt_mid ..) (Ev.ite_pos ge_0 (Ev.ite_pos (lt_mid ..) hv)))) l [] x (by simpa using hl) hx hB
  simpa [laws_markByteS_o1.f] using this
theorem heldByteS_ev (l : List Int) (hl : l.length ≤ 1048576) (x : Int) (hx : 0 ≤ x) (hB : x + mks (fun _ => 1) l ≤ BB) : Ev (fun k => laws_heldByteS.f k (mkl fB (fun _ => 1) x l) x) (x + mks (fun _ => 1) l) := by
  have := held_ev (fun _ => 1) (by simp) fB BB laws_heldByteS.l4 (fun x l => Ev.step (by simp only [laws_heldByteS.l4]; exact Ev.ite_neg (by omega) (Ev.ret _))) (fun pre a suf x h0 h1 h2 v hv => Ev.step (by
    simp only [laws_heldByteS.l4, rd, get_mid, succ_mid h0, wrap_in (show 0 ≤ x + 1 by omega) (by omega)]
    exact Ev.ite_pos (lt_mid ..) (Ev.ite_pos ge_0 (Ev.ite_pos (lt_mid ..) (Ev.ite_pos rfl hv))))) l [] x (by simpa using hl) hx hB
  simpa [laws_heldByteS.f] using this

def wL (l : List Int) : Int := mks (fun _ => 1) l
def fL (x : Int) (l : List Int) : List Int := mkl fB (fun _ => 1) x l
theorem wL_len (l : List Int) : wL l = (l.length : Int) := by unfold wL; rw [mks_const]; omega
theorem wL_nn (l : List Int) : 0 ≤ wL l := by rw [wL_len]; omega
theorem markByteSS_ev (l : List (List Int)) (hl : l.length ≤ 1048576) (x : Int) (hx : 0 ≤ x) (hB : x + mks wL l ≤ 1048576) : Ev (fun k => laws_markByteSS_o1.f k x l) (x + mks wL l, mkl fL wL x l) := by
  have := marks_ev wL wL_nn fL 1048576 laws_markByteSS_o1.l4 (fun x l => Ev.step (by simp only [laws_markByteSS_o1.l4]; exact Ev.ite_neg (by omega) (Ev.ret _))) (fun pre a suf x h0 h1 h2 v hv => Ev.step (by
    have hw := wL_len a
    simp only [laws_markByteSS_o1.l4, rd_ListInt, get_mid, set_mid, succ_mid h0]
    exact Ev.ite_pos (lt_mid ..) (Ev.ite_pos ge_0 (Ev.ite_pos (lt_mid ..) (Ev.bind (markByteS_ev a (by omega) x h1 (by show x + wL a ≤ BB; unfold BB; omega)) (by simp only [set_mid]; exact hv)))))) l [] x (by simpa using hl) hx hB
  simpa [laws_markByteSS_o1.f] using this
theorem heldByteSS_ev (l : List (List Int)) (hl : l.length ≤ 1048576) (x : Int) (hx : 0 ≤ x) (hB : x + mks wL l ≤ 1048576) : Ev (fun k => laws_heldByteSS.f k (mkl fL wL x l) x) (x + mks wL l) := by
  have := held_ev wL wL_nn fL 1048576 laws_heldByteSS.l4 (fun x l => Ev.step (by simp only [laws_heldByteSS.l4]; exact Ev.ite_neg (by omega) (Ev.ret _))) (fun pre a suf x h0 h1 h2 v hv => Ev.step (by
    have hw := wL_len a
    have hh := heldByteS_ev a (by omega) x h1 (by show x + wL a ≤ BB; unfold BB; omega)
    simp only [laws_heldByteSS.l4, rd_ListInt, get_mid, succ_mid h0]
    exact Ev.ite_pos (lt_mid ..) (Ev.ite_pos ge_0 (Ev.ite_pos (lt_mid ..) (Ev.bind hh (Ev.ite_neg (by show ¬ x + wL a < 0; omega) hv)))))) l [] x (by simpa using hl) hx hB
  simpa [laws_heldByteSS.f] using this
end Go.Proofs.YtfmbebgpbgcpeaaGreat.PLi
