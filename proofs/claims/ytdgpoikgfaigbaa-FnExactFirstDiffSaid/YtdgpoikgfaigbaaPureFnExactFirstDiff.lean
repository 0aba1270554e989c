/- FirstDiff, the program's and the reference's, tell the same place. Plain Lean over the printed functions. -/
import Derived.Test.YtdgpoikgfaigbaaGen
import Derived.Test.YtdgpoikgfaigbaaGdFnExactFirstDiff
set_option linter.unusedVariables false
set_option linter.unusedSimpArgs false
namespace Go.Proofs.Ytdgpoikgfaigbaa.PureFnExactFirstDiff
open Go.RowKit Go.Proofs.Ytdgpoikgfaigbaa.PFnExactFirstDiff Go.Proofs.YtdgpoikgfaigbaaW.PrintWords Go.Proofs.Ytdgpoikgfaigbaa.Gen Go.Proofs.Ytdgpoikgfaigbaa.GdFnExactFirstDiff

theorem sz_le (l : List S59) (hm : l.length ≤ maxLen) {n t : Int} (h0 : 0 ≤ n) (h1 : n ≤ 1048576) (h : laws_szEventS.f l n = some t) (ht : ¬ t < 0) : (l.length : Int) ≤ n ∧ t ≤ n := by
  unfold maxLen at hm
  unfold laws_szEventS.f at h
  by_cases c : wrap64 (n - (l.length : Int)) < 0
  · rw [if_pos c] at h
    cases h
    omega
  · rw [if_neg c] at h
    cases h
    unfold wrap64 at *
    omega
def conv (b : S59) : S57 := ⟨b.f0, b.f1, b.f2, b.f3, b.f4, b.f5, b.f6⟩
theorem to_map (l : List S59) (hl : l.length ≤ 1048576) (k : Nat) (hk : l.length < k) : laws_toEventS.f k l = some (l.map conv) := by
  unfold laws_toEventS.f
  rw [if_pos (by omega), if_pos (by omega)]
  refine fill_all (fun k y i => laws_toEventS.l0 k l y i) l conv z59 z57 ?_ ?_ k hk
  · intro k y i hi hy
    simp only [laws_toEventS.l0, laws_toEvent.f]
    rw [if_pos (by omega), if_pos (by omega)]
    simp only [Option.bind_some]
    rw [if_pos (by omega), wrap_succ (by omega) (by omega)]
    rfl
  · intro k y
    simp only [laws_toEventS.l0]
    rw [if_neg (by omega)]
theorem eq_self (l : List S57) (hl : l.length ≤ 1048576) (k : Nat) (hk : l.length < k) : laws_eqEventS.f k l l = some true := by
  unfold laws_eqEventS.f
  rw [if_pos rfl]
  refine pass_all (fun k i => laws_eqEventS.l0 k l l i) l.length ?_ ?_ l.length k 0 (by omega) hk
  · intro k i hi
    simp only [laws_eqEventS.l0, laws_eqEvent.f]
    rw [if_pos (by omega), if_pos (by omega), if_pos (by omega)]
    simp only [if_true, Option.bind_some]
    rw [wrap_succ (by omega) (by omega)]
  · intro k
    simp only [laws_eqEventS.l0]
    rw [if_neg (by omega)]
theorem loops (x y : List S57) (hx : x.length ≤ 1048576) (hy : y.length ≤ 1048576) : ∀ (d k : Nat) (i : Nat), (mx (x.length : Int) (y.length : Int)) - (i : Int) = d → 2 * d + 2 < k →
    ∃ r, spec_FirstDiff.l0 k x y (i : Int) = some r ∧ impl_firstDiff.l0 k x y (mx (x.length : Int) (y.length : Int)) (i : Int) = some r := by
  intro d
  induction d with
  | zero =>
    intro k i hi hk
    have hm : (x.length : Int) ≤ i ∧ (y.length : Int) ≤ i := by unfold mx at hi; omega
    obtain ⟨k, rfl⟩ : ∃ m, k = m + 2 := ⟨k - 2, by omega⟩
    simp only [spec_FirstDiff.l0, spec_FirstDiff.j2, impl_firstDiff.l0]
    rw [if_neg (by omega), if_neg (by simp; omega), if_neg (by omega)]
    exact ⟨_, rfl, rfl⟩
  | succ d ih =>
    intro k i hi hk
    obtain ⟨k, rfl⟩ : ∃ m, k = m + 2 := ⟨k - 2, by omega⟩
    have hm : (i : Int) < x.length ∨ (i : Int) < y.length := by unfold mx at hi; omega
    have hml : (i : Int) < mx (x.length : Int) (y.length : Int) := by omega
    have hn : wrap64 ((i : Int) + 1) = ((i + 1 : Nat) : Int) := by rw [wrap_succ (by omega) (by omega)]; omega
    simp only [spec_FirstDiff.l0, spec_FirstDiff.j2]
    rw [show impl_firstDiff.l0 (k + 2) = impl_firstDiff.l0 ((k + 1) + 1) from rfl]
    rw [impl_firstDiff.l0]
    rw [if_pos hml]
    have hl0 : 0 ≤ (i : Int) := by omega
    by_cases c1 : (i : Int) < (x.length : Int)
    · have c1' : ¬ (i : Int) ≥ (x.length : Int) := by omega
      by_cases c2 : (i : Int) < (y.length : Int)
      · have c2' : ¬ (i : Int) ≥ (y.length : Int) := by omega
        simp only [if_pos c1, if_neg c1', if_pos c2, if_neg c2', if_pos hl0, if_true, hn]
        split
        · exact ⟨_, rfl, rfl⟩
        · obtain ⟨r, h1, h2⟩ := ih k (i + 1) (by omega) (by omega)
          exact ⟨r, h1, at_rounds (fun n => (impl_firstDiff.mono_l n).2 _ _ _ _) (by omega) h2⟩
      · have c2' : (i : Int) ≥ (y.length : Int) := by omega
        simp only [if_pos c1, if_neg c1', if_pos c2', if_true]
        exact ⟨_, rfl, rfl⟩
    · have c2 : (i : Int) < (y.length : Int) := by omega
      have c1' : (i : Int) ≥ (x.length : Int) := by omega
      simp only [if_neg c1, decide_eq_true c2, if_pos c1', if_true]
      exact ⟨_, rfl, rfl⟩
theorem same (x y : List S57) (hx : x.length ≤ 1048576) (hy : y.length ≤ 1048576) (k : Nat) (hk : 2 * x.length + 2 * y.length + 4 < k) : ∃ r, spec_FirstDiff.f k x y = some r ∧ impl_FirstDiff.f k x y = some r := by
  obtain ⟨k, rfl⟩ : ∃ m, k = m + 1 := ⟨k - 1, by omega⟩
  unfold spec_FirstDiff.f impl_FirstDiff.f impl_firstDiff.f
  have h1 : ∀ b : Bool, ∃ r, spec_FirstDiff.j0 (k + 1) x y b = some r ∧ (impl_firstDiff.j0 (k + 1) x y b).bind (fun t => some t) = some r := by
    intro b
    simp only [spec_FirstDiff.j0, impl_firstDiff.j0]
    cases b with
    | true => exact ⟨_, rfl, rfl⟩
    | false =>
      rw [if_neg (by simp), if_neg (by simp)]
      obtain ⟨r, h1, h2⟩ := loops x y hx hy (mx (x.length : Int) (y.length : Int)).toNat k 0 (by unfold mx; omega) (by unfold mx; omega)
      exact ⟨r, h1, by rw [show ((0 : Nat) : Int) = 0 from rfl] at h2; rw [h2]; rfl⟩
  by_cases c : (x.length : Int) > 50000
  · rw [if_pos c, if_pos c]
    exact h1 _
  · rw [if_neg c, if_neg c]
    exact h1 _

theorem FnExactFirstDiff : Pure := by
  intro x y hx hy
  refine ⟨2 * x.length + 2 * y.length + 5, ?_⟩
  unfold laws_FnExactFirstDiff.f
  have hs : ∀ (l : List S59) (n : Int), ∃ t, laws_szEventS.f l n = some t := by intro l n; unfold laws_szEventS.f; split <;> exact ⟨_, rfl⟩
  obtain ⟨t, ht⟩ := hs x 1048576
  rw [ht]
  simp only [Option.bind_some]
  by_cases c : t < 0
  · rw [if_pos c]
  · rw [if_neg c]
    obtain ⟨hlx, htb⟩ := sz_le x hx.1 (by omega) (by omega) ht c
    obtain ⟨u, hu⟩ := hs y t
    rw [hu]
    simp only [Option.bind_some]
    by_cases c2 : u < 0
    · rw [if_pos c2]
    · rw [if_neg c2]
      obtain ⟨hly, _⟩ := sz_le y hy.1 (by omega) (by omega) hu c2
      have hmx : (x.map conv).length = x.length := by simp
      have hmy : (y.map conv).length = y.length := by simp
      obtain ⟨r, h1, h2⟩ := same (x.map conv) (y.map conv) (by omega) (by omega) (2 * x.length + 2 * y.length + 5) (by omega)
      rw [to_map x (by omega) _ (by omega), to_map y (by omega) _ (by omega)]
      simp only [Option.bind_some]
      rw [h1]
      simp only [Option.bind_some]
      rw [h2]
      simp only [Option.bind_some, if_true]
      rw [eq_self _ (by omega) _ (by omega), eq_self _ (by omega) _ (by omega)]
      simp
end Go.Proofs.Ytdgpoikgfaigbaa.PureFnExactFirstDiff
