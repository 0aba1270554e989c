/- SpanSum, the program's and the reference's, add up alike for every part and phase. Plain Lean over the printed functions. -/
import Derived.Test.YtdgpoikgfaigbaaGen
import Derived.Test.YtdgpoikgfaigbaaGdFnExactSpanSum
set_option linter.unusedVariables false
set_option linter.unusedSimpArgs false
namespace Go.Proofs.Ytdgpoikgfaigbaa.PureFnExactSpanSum
open Go.RowKit Go.Proofs.Ytdgpoikgfaigbaa.PFnExactSpanSum Go.Proofs.YtdgpoikgfaigbaaW.PrintWords Go.Proofs.Ytdgpoikgfaigbaa.Gen Go.Proofs.Ytdgpoikgfaigbaa.GdFnExactSpanSum

theorem sz_le (l : List S53) (hm : l.length ≤ maxLen) {t : Int} (h : laws_szSpanS.f l 1048576 = some t) (ht : ¬ t < 0) : l.length ≤ 1048576 := by
  unfold maxLen at hm
  unfold laws_szSpanS.f at h
  by_cases c : wrap64 (1048576 - (l.length : Int)) < 0
  · rw [if_pos c] at h
    cases h
    omega
  · unfold wrap64 at c
    omega
def conv (b : S53) : S51 := ⟨b.f0, b.f1, b.f2, b.f3⟩
theorem to_map (l : List S53) (hl : l.length ≤ 1048576) (k : Nat) (hk : l.length < k) : laws_toSpanS.f k l = some (l.map conv) := by
  unfold laws_toSpanS.f
  rw [if_pos (by omega), if_pos (by omega)]
  refine fill_all (fun k y i => laws_toSpanS.l0 k l y i) l conv z53 z51 ?_ ?_ k hk
  · intro k y i hi hy
    simp only [laws_toSpanS.l0, laws_toSpan.f]
    rw [if_pos (by omega), if_pos (by omega)]
    simp only [Option.bind_some]
    rw [if_pos (by omega), wrap_succ (by omega) (by omega)]
    rfl
  · intro k y
    simp only [laws_toSpanS.l0]
    rw [if_neg (by omega)]
theorem eq_self (l : List S51) (hl : l.length ≤ 1048576) (k : Nat) (hk : l.length < k) : laws_eqSpanS.f k l l = some true := by
  unfold laws_eqSpanS.f
  rw [if_pos rfl]
  refine pass_all (fun k i => laws_eqSpanS.l0 k l l i) l.length ?_ ?_ l.length k 0 (by omega) hk
  · intro k i hi
    simp only [laws_eqSpanS.l0, laws_eqSpan.f]
    rw [if_pos (by omega), if_pos (by omega), if_pos (by omega)]
    simp only [if_true, Option.bind_some]
    rw [wrap_succ (by omega) (by omega)]
  · intro k
    simp only [laws_eqSpanS.l0]
    rw [if_neg (by omega)]
theorem loops (l : List S51) (p q : Int) (hl : l.length ≤ 1048576) : ∀ (d k : Nat) (i : Nat) (acc : Int), i + d = l.length → d < k →
    ∃ r, spec_SpanSum.l0 k l p q acc (i : Int) = some r ∧ impl_SpanSum.l0 k p q acc l (l.length : Int) (i : Int) = some r := by
  intro d
  induction d with
  | zero =>
    intro k i acc hi hk
    obtain ⟨k, rfl⟩ : ∃ m, k = m + 1 := ⟨k - 1, by omega⟩
    simp only [spec_SpanSum.l0, impl_SpanSum.l0]
    have hl1 : ¬ (i : Int) < (l.length : Int) := by omega
    simp only [if_neg hl1]
    exact ⟨acc, rfl, rfl⟩
  | succ d ih =>
    intro k i acc hi hk
    obtain ⟨k, rfl⟩ : ∃ m, k = m + 1 := ⟨k - 1, by omega⟩
    have hn : wrap64 ((i : Int) + 1) = ((i + 1 : Nat) : Int) := by rw [wrap_succ (by omega) (by omega)]; omega
    simp only [spec_SpanSum.l0, impl_SpanSum.l0, impl_isCycle.f, impl_within.f, spec_l01In.f]
    have hl1 : (i : Int) < (l.length : Int) := by omega
    have hl0 : 0 ≤ (i : Int) := by omega
    simp only [if_pos hl1, if_pos hl0, hn]
    have hw : ∀ a b c : Int, wrap64 (wrap64 (a + b) - c) = wrap64 (a + wrap64 (b - c)) := by
      intro a b c
      unfold wrap64
      omega
    generalize (rd_T51 l (i : Int)) = x
    by_cases c0 : x.f2 = p
    · simp only [if_pos c0]
      by_cases c1 : x.f3 = q
      · simp only [if_pos c1]
        by_cases c2 : x.f0 ≥ 0
        · simp only [if_pos c2, Option.bind_some]
          by_cases c3 : x.f0 ≤ 50000
          · simp only [decide_eq_true c3, if_true]
            by_cases c4 : x.f1 ≥ x.f0
            · simp only [if_pos c4, Option.bind_some]
              by_cases c5 : x.f1 ≤ 50000
              · simp only [decide_eq_true c5, if_true, hw]
                exact ih k (i + 1) _ (by omega) (by omega)
              · simp only [decide_eq_false c5, Bool.false_eq_true, if_false]
                exact ih k (i + 1) _ (by omega) (by omega)
            · simp only [if_neg c4, Option.bind_some, Bool.false_eq_true, if_false]
              exact ih k (i + 1) _ (by omega) (by omega)
          · simp only [decide_eq_false c3, Bool.false_eq_true, if_false]
            exact ih k (i + 1) _ (by omega) (by omega)
        · simp only [if_neg c2, Option.bind_some, Bool.false_eq_true, if_false]
          exact ih k (i + 1) _ (by omega) (by omega)
      · simp only [if_neg c1]
        exact ih k (i + 1) _ (by omega) (by omega)
    · simp only [if_neg c0]
      exact ih k (i + 1) _ (by omega) (by omega)
theorem same (l : List S51) (p q : Int) (hl : l.length ≤ 1048576) (k : Nat) (hk : l.length < k) : ∃ r, spec_SpanSum.f k l p q = some r ∧ impl_SpanSum.f k l p q = some r := by
  unfold spec_SpanSum.f impl_SpanSum.f
  by_cases c : (l.length : Int) > 5000
  · simp only [if_pos c]
    exact ⟨0, rfl, rfl⟩
  · simp only [if_neg c]
    exact loops l p q hl l.length k 0 0 (by omega) hk

theorem FnExactSpanSum : Pure := by
  intro l p q h0 _ _
  refine ⟨l.length + 1, ?_⟩
  unfold laws_FnExactSpanSum.f
  have hs : ∃ t, laws_szSpanS.f l 1048576 = some t := by unfold laws_szSpanS.f; split <;> exact ⟨_, rfl⟩
  obtain ⟨t, ht⟩ := hs
  rw [ht]
  simp only [Option.bind_some]
  by_cases c : t < 0
  · rw [if_pos c]
  · rw [if_neg c]
    have hl := sz_le l h0.1 ht c
    have hm : (l.map conv).length = l.length := by simp
    obtain ⟨r, h1, h2⟩ := same (l.map conv) p q (by omega) (l.length + 1) (by omega)
    rw [to_map l hl _ (by omega)]
    simp only [Option.bind_some]
    rw [h1]
    simp only [Option.bind_some]
    rw [h2]
    simp only [Option.bind_some, if_true]
    rw [eq_self _ (by omega) _ (by omega)]
    simp
end Go.Proofs.Ytdgpoikgfaigbaa.PureFnExactSpanSum
