/- ClockAfter, the program's and the reference's, add up alike. Plain Lean over the printed functions. -/
import Derived.Test.YtdgpoikgfaigbaaGen
import Derived.Test.YtdgpoikgfaigbaaGdFnExactClockAfter
set_option linter.unusedVariables false
set_option linter.unusedSimpArgs false
namespace Go.Proofs.Ytdgpoikgfaigbaa.PureFnExactClockAfter
open Go.RowKit Go.Proofs.Ytdgpoikgfaigbaa.PFnExactClockAfter Go.Proofs.YtdgpoikgfaigbaaW.PrintWords Go.Proofs.Ytdgpoikgfaigbaa.Gen Go.Proofs.Ytdgpoikgfaigbaa.GdFnExactClockAfter

theorem sz_le (l : List S47) (hm : l.length ≤ maxLen) {t : Int} (h : laws_szCmdS.f l 1048576 = some t) (ht : ¬ t < 0) : l.length ≤ 1048576 := by
  unfold maxLen at hm
  unfold laws_szCmdS.f at h
  by_cases c : wrap64 (1048576 - (l.length : Int)) < 0
  · rw [if_pos c] at h
    cases h
    omega
  · unfold wrap64 at c
    omega
def conv (b : S47) : S45 := ⟨b.f0, b.f1, b.f2⟩
theorem to_map (l : List S47) (hl : l.length ≤ 1048576) (k : Nat) (hk : l.length < k) : laws_toCmdS.f k l = some (l.map conv) := by
  unfold laws_toCmdS.f
  rw [if_pos (by omega), if_pos (by omega)]
  refine fill_all (fun k y i => laws_toCmdS.l0 k l y i) l conv z47 z45 ?_ ?_ k hk
  · intro k y i hi hy
    simp only [laws_toCmdS.l0, laws_toCmd.f]
    rw [if_pos (by omega), if_pos (by omega)]
    simp only [Option.bind_some]
    rw [if_pos (by omega), wrap_succ (by omega) (by omega)]
    rfl
  · intro k y
    simp only [laws_toCmdS.l0]
    rw [if_neg (by omega)]
theorem eq_self (l : List S45) (hl : l.length ≤ 1048576) (k : Nat) (hk : l.length < k) : laws_eqCmdS.f k l l = some true := by
  unfold laws_eqCmdS.f
  rw [if_pos rfl]
  refine pass_all (fun k i => laws_eqCmdS.l0 k l l i) l.length ?_ ?_ l.length k 0 (by omega) hk
  · intro k i hi
    simp only [laws_eqCmdS.l0, laws_eqCmd.f]
    rw [if_pos (by omega), if_pos (by omega), if_pos (by omega)]
    simp only [if_true, Option.bind_some]
    rw [wrap_succ (by omega) (by omega)]
  · intro k
    simp only [laws_eqCmdS.l0]
    rw [if_neg (by omega)]
theorem loops (l : List S45) (hl : l.length ≤ 1048576) : ∀ (d k : Nat) (i : Nat) (acc : Int), i + d = l.length → d < k →
    ∃ r, spec_ClockAfter.l0 k l acc (i : Int) = some r ∧ impl_ClockAfter.l0 k acc l (l.length : Int) (i : Int) = some r := by
  intro d
  induction d with
  | zero =>
    intro k i acc hi hk
    obtain ⟨k, rfl⟩ : ∃ m, k = m + 1 := ⟨k - 1, by omega⟩
    simp only [spec_ClockAfter.l0, impl_ClockAfter.l0]
    have hl1 : ¬ (i : Int) < (l.length : Int) := by omega
    simp only [if_neg hl1]
    exact ⟨acc, rfl, rfl⟩
  | succ d ih =>
    intro k i acc hi hk
    obtain ⟨k, rfl⟩ : ∃ m, k = m + 1 := ⟨k - 1, by omega⟩
    have hn : wrap64 ((i : Int) + 1) = ((i + 1 : Nat) : Int) := by rw [wrap_succ (by omega) (by omega)]; omega
    simp only [spec_ClockAfter.l0, impl_ClockAfter.l0, impl_within.f]
    have hl1 : (i : Int) < (l.length : Int) := by omega
    have hl0 : 0 ≤ (i : Int) := by omega
    simp only [if_pos hl1, if_pos hl0, hn]
    by_cases c0 : (rd_T45 l (i : Int)).f0 = 0
    · simp only [if_pos c0]
      by_cases c1 : (rd_T45 l (i : Int)).f1 ≥ 0
      · simp only [if_pos c1]
        simp only [Option.bind_some]
        by_cases c2 : (rd_T45 l (i : Int)).f1 ≤ wrap64 (50000 - acc)
        · simp only [if_pos c2, decide_eq_true c2, if_true]
          exact ih k (i + 1) _ (by omega) (by omega)
        · simp only [if_neg c2, decide_eq_false c2, Bool.false_eq_true, if_false]
          exact ih k (i + 1) _ (by omega) (by omega)
      · simp only [if_neg c1]
        simp only [Option.bind_some]
        rw [if_neg (by simp)]
        exact ih k (i + 1) _ (by omega) (by omega)
    · simp only [if_neg c0]
      exact ih k (i + 1) _ (by omega) (by omega)
theorem same (l : List S45) (hl : l.length ≤ 1048576) (k : Nat) (hk : l.length < k) : ∃ r, spec_ClockAfter.f k l = some r ∧ impl_ClockAfter.f k l = some r := by
  unfold spec_ClockAfter.f impl_ClockAfter.f
  by_cases c : (l.length : Int) > 300
  · simp only [if_pos c]
    exact ⟨0, rfl, rfl⟩
  · simp only [if_neg c]
    exact loops l hl l.length k 0 0 (by omega) hk

theorem FnExactClockAfter : Pure := by
  intro l h0
  refine ⟨l.length + 1, ?_⟩
  unfold laws_FnExactClockAfter.f
  have hs : ∃ t, laws_szCmdS.f l 1048576 = some t := by unfold laws_szCmdS.f; split <;> exact ⟨_, rfl⟩
  obtain ⟨t, ht⟩ := hs
  rw [ht]
  simp only [Option.bind_some]
  by_cases c : t < 0
  · rw [if_pos c]
  · rw [if_neg c]
    have hl := sz_le l h0.1 ht c
    have hm : (l.map conv).length = l.length := by simp
    obtain ⟨r, h1, h2⟩ := same (l.map conv) (by omega) (l.length + 1) (by omega)
    rw [to_map l hl _ (by omega)]
    simp only [Option.bind_some]
    rw [h1]
    simp only [Option.bind_some]
    rw [h2]
    simp only [Option.bind_some, if_true]
    rw [eq_self _ (by omega) _ (by omega)]
    simp
end Go.Proofs.Ytdgpoikgfaigbaa.PureFnExactClockAfter
