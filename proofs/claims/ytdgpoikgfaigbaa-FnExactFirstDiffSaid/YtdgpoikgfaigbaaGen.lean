/- Plain facts on loops that are told with rounds: copying a slice element by element, holding two slices against each other. No program in sight. -/
import Derived.Test.YtdgpoikgfaigbaaWWords
set_option linter.unusedVariables false
set_option linter.unusedSimpArgs false
namespace Go.Proofs.Ytdgpoikgfaigbaa.Gen
open Go.RowKit Go.Proofs.YtdgpoikgfaigbaaW.PrintWords

theorem wrap_succ {i : Int} (h0 : 0 ≤ i) (h1 : i < 9223372036854775807) : wrap64 (i + 1) = i + 1 := by
  unfold wrap64
  omega
theorem wrap_id {i : Int} (h0 : -9223372036854775808 ≤ i) (h1 : i ≤ 9223372036854775807) : wrap64 i = i := by
  unfold wrap64
  omega

/-- A loop that fills a slice of the same length. -/
theorem fill_loop {α β : Type} (F : Nat → List β → Int → Option (List β)) (xs : List α) (g : α → β) (z : α)
    (hstep : ∀ k y (i : Nat), i < xs.length → y.length = xs.length → F (k + 1) y (i : Int) = F k (y.set i (g (xs.getD i z))) ((i : Int) + 1))
    (hend : ∀ k y, F (k + 1) y (xs.length : Int) = some y) :
    ∀ (d k : Nat) (i : Nat) (y : List β), i + d = xs.length → d < k → y.length = xs.length → F k y (i : Int) = some (y.take i ++ (xs.drop i).map g) := by
  intro d
  induction d with
  | zero =>
    intro k i y hi hk hy
    obtain ⟨k, rfl⟩ : ∃ m, k = m + 1 := ⟨k - 1, by omega⟩
    obtain rfl : i = xs.length := by omega
    rw [hend, List.drop_length, List.take_of_length_le (by omega)]
    simp
  | succ d ih =>
    intro k i y hi hk hy
    obtain ⟨k, rfl⟩ : ∃ m, k = m + 1 := ⟨k - 1, by omega⟩
    have hlt : i < xs.length := by omega
    rw [hstep k y i hlt hy]
    have := ih k (i + 1) (y.set i (g (xs.getD i z))) (by omega) (by omega) (by simpa using hy)
    rw [show ((i : Int) + 1) = ((i + 1 : Nat) : Int) by omega, this]
    have e1 : xs.getD i z = xs[i] := by simp [List.getD_eq_getElem?_getD, hlt]
    rw [List.drop_eq_getElem_cons hlt, List.map_cons, e1, List.take_succ_eq_append_getElem (by simpa using (by omega : i < y.length))]
    have e2 : (y.set i (g xs[i])).take i = y.take i := by
      apply List.ext_getElem?
      intro j
      by_cases hj : j < i
      · simp [List.getElem?_take, hj, List.getElem?_set, show ¬ i = j by omega]
      · simp [List.getElem?_take, hj]
    rw [e2]
    simp
theorem fill_all {α β : Type} (F : Nat → List β → Int → Option (List β)) (xs : List α) (g : α → β) (z : α) (zb : β)
    (hstep : ∀ k y (i : Nat), i < xs.length → y.length = xs.length → F (k + 1) y (i : Int) = F k (y.set i (g (xs.getD i z))) ((i : Int) + 1))
    (hend : ∀ k y, F (k + 1) y (xs.length : Int) = some y) (k : Nat) (hk : xs.length < k) :
    F k (List.replicate xs.length zb) 0 = some (xs.map g) := by
  have := fill_loop F xs g z hstep hend xs.length k 0 (List.replicate xs.length zb) (by omega) hk (by simp)
  simpa using this
/-- A loop that only looks, and looks at all. -/
theorem pass_all (F : Nat → Int → Option Bool) (n : Nat) (hstep : ∀ k (i : Nat), i < n → F (k + 1) (i : Int) = F k ((i : Int) + 1)) (hend : ∀ k, F (k + 1) (n : Int) = some true) :
    ∀ (d k i : Nat), i + d = n → d < k → F k (i : Int) = some true := by
  intro d
  induction d with
  | zero =>
    intro k i hi hk
    obtain ⟨k, rfl⟩ : ∃ m, k = m + 1 := ⟨k - 1, by omega⟩
    obtain rfl : i = n := by omega
    exact hend k
  | succ d ih =>
    intro k i hi hk
    obtain ⟨k, rfl⟩ : ∃ m, k = m + 1 := ⟨k - 1, by omega⟩
    rw [hstep k i (by omega)]
    exact ih k (i + 1) (by omega) (by omega)
end Go.Proofs.Ytdgpoikgfaigbaa.Gen
