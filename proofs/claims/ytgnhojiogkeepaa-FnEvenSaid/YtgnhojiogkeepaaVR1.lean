/- What slices.Replace's own operations do to memory: copy, clear and append at elements of any size, in terms of a row's cells. -/
import Derived.Test.YtgnhojiogkeepaaV12
import Derived.Lib.Overlaps
import Derived.Shelf.Spec.SlicesInsert
set_option linter.unusedVariables false
set_option linter.unusedSimpArgs false
set_option linter.unusedSectionVars false
namespace Go.Proofs.Ytgnhojiogkeepaa.V
open Go.RowKit

section
variable {P : Program}

/-- copy, elements of any size. -/
theorem run_copy_k (w : World) (dT sT ty elem : TypeId) (sz g o dLen dCap : Nat) (a : Addr) (sLen sCap : Nat) (cur : Array Value) (t : TypeId) (cs : List Value)
    (hu : P.underlying dT = some (.slice elem)) (hs : (P.info? elem).map (·.size) = some sz)
    (hg : w.heap[g]? = some (.cells cur t (0, 0))) (hn : cs.length = Nat.min sLen dLen * sz)
    (hsrc : ∀ j v, cs[j]? = some v → w.cell? (a.add j) = some v) (hfit : o + cs.length ≤ cur.size) (h1 : ∀ v ∈ cs, v.oneCell' = true) :
    (Builtin.copy_ #[dT, sT] ty #[.slice (some (at_ g o)) dLen dCap, .slice (some a) sLen sCap]).run P w =
      .ok (goInt (Nat.min sLen dLen)) (w.setRow g (laid cur o cs)) := by
  have hl := run_loadCells_list (P := P) w a cs hsrc
  have hst := run_storeCells_at P g o t cs 0 cur w hg (by simpa using hfit) h1
  cases hq : P.info? elem with
  | none => simp [hq] at hs
  | some i =>
    have hi : i.size = sz := by simpa [hq] using hs
    simp [Builtin.copy_, run_underlying hu, Builtin.lenOf, Builtin.firstCells, sizeOf, typeInfo, hq, hi, ← hn, hl, hst, laid]

/-- clear, elements of any size. -/
theorem run_clear_k (w : World) (t e ty : TypeId) (i : TypeInfo) (z : Value) (n : Nat) (ht : P.underlying t = some (.slice e)) (hi : P.info? e = some i) (hz : i.zero = some z) (h1 : ∀ v ∈ (Builtin.zeroCells z.cells n).toList, v.oneCell' = true)
    (g o c : Nat) (cur : Array Value) (et : TypeId) (hg : w.heap[g]? = some (.cells cur et (0, 0))) (hn : 0 < n) (hfit : o + (Builtin.zeroCells z.cells n).toList.length ≤ cur.size) :
    (Builtin.clear_ #[t] ty #[.slice (some (at_ g o)) n c]).run P w = .ok (.tuple #[]) (w.setRow g (laid cur o (Builtin.zeroCells z.cells n).toList)) := by
  have hst := run_storeCells_at P g o et _ 0 cur w hg (by simpa using hfit) h1
  simp only [Nat.add_zero] at hst
  obtain ⟨m, rfl⟩ : ∃ m, n = m + 1 := ⟨n - 1, by omega⟩
  simp [Builtin.clear_, run_underlying ht, zeroValue, typeInfo, hi, hz, hst, laid]

theorem run_clear_none (w : World) (t e ty : TypeId) (ht : P.underlying t = some (.slice e)) (b : Option Addr) (c : Nat) :
    (Builtin.clear_ #[t] ty #[.slice b 0 c]).run P w = .ok (.tuple #[]) w := by
  cases b <;> simp [Builtin.clear_, run_underlying ht]

/-- append into the room that is there. -/
theorem run_append_room_k (w : World) (t tx ty e : TypeId) (i : TypeInfo) (ht : P.underlying t = some (.slice e)) (hi : P.info? e = some i)
    (g off n cap m : Nat) (x : Value) (news : List Value) (cur : Array Value) (et : TypeId) (hg : w.heap[g]? = some (.cells cur et (0, 0))) (hs : Src P i.size tx x m news w) (hr : n + m ≤ cap) (hfit : off + n * i.size + news.length ≤ cur.size) :
    (Builtin.append_ #[t, tx] ty #[.slice (some (at_ g off)) n cap, x]).run P w = .ok (.slice (some (at_ g off)) (n + m) cap) (w.setRow g (laid cur (off + n * i.size) news)) := by
  have hst := run_storeCells_at P g (off + n * i.size) et news 0 cur w hg (by simpa using hfit) hs.one
  simp only [Nat.add_zero] at hst
  rcases hs.kind with ⟨e', hk⟩ | hk <;> simp [Builtin.append_, run_underlying ht, run_underlying hk, sizeOf, typeInfo, hi, hs.len, hr, hs.cells, addr_add, hst, laid]

/-- append of zero values, no room for them. -/
theorem run_append_zeros_k (w : World) (t tn ty e : TypeId) (i : TypeInfo) (z : Value) (kn : IntKind) (ht : P.underlying t = some (.slice e)) (htn : P.underlying tn = some (.int kn)) (hi : P.info? e = some i) (hz : i.zero = some z)
    (a : Addr) (n cap m : Nat) (olds : List Value) (hold : (loadCells a (n * i.size)).run P w.drew = .ok olds.toArray w.drew) (h0 : 0 < m * i.size) (hr : cap < n + m) (h63 : n + m ≤ maxLen) (hb : (n + m) * i.bytes ≤ 140737488355328) :
    (Builtin.append_ #[t, tn] ty #[.slice (some a) n cap, .int .i64 m]).run P w =
      .ok (.slice (some ⟨w.heap.size, 0, none⟩) (n + m) (grownCap w (n + m) cap e)) (w.drew.alloc (.cells (olds.toArray ++ Builtin.zeroCells z.cells m ++ Builtin.zeroCells z.cells (grownCap w (n + m) cap e - (n + m))) e)) := by
  have hw : IntKind.i64.wrap (m : Int) = m := by rw [IntKind.wrap_i64]; unfold maxLen at h63; omega
  have h63' : ¬ (9223372036854775807 < ((n : Int) + (m : Int))) := by unfold maxLen at h63; omega
  have hfit := growslice_fits hr hb
  have h48' : ¬ (281474976710656 < Builtin.nextslicecap (n + m) cap * i.bytes) := by omega
  have hmb : m * i.bytes ≤ (n + m) * i.bytes := Nat.mul_le_mul_right _ (by omega)
  have h48i : ¬ (281474976710656 < (m : Int) * (i.bytes : Int)) := by
    rw [← Int.natCast_mul]
    omega
  have hn : ¬ (n + m ≤ cap) := by omega
  have h0' : ¬ (m * i.size = 0) := by omega
  have hneg : ¬ ((m : Int) < 0) := by omega
  simp [Builtin.append_, run_underlying ht, run_underlying htn, sizeOf, typeInfo, zeroValue, hi, hz, asInt, asIntOf, hw, hneg, hn, h0', h63', h48', h48i, Question.forced, Builtin.firstCells, hold, newRow, grownCap]

/-- slices.overlaps at a row of the call's own and another slice's cells. -/
theorem run_overlaps_own (w : World) (tS tR e : TypeId) (ht : P.underlying tS = some (.slice e)) (size : Nat) (hz : ∀ w, (Go.sizeOf e).run P w = .ok size w)
    (g o la ca g' o' lb cb : Nat) (cur : Array Value) (et : TypeId) (hg : w.heap[g]? = some (.cells cur et (0, 0))) {u : Value} (hu : w.cell? (at_ g' o') = some u) (hd : g = g' → o + la * size ≤ o' ∨ o' + lb * size ≤ o) :
    (Extern.SlicesOverlaps.overlaps #[tS, tS] #[tR] #[.slice (some (at_ g o)) la ca, .slice (some (at_ g' o')) lb cb]).run P w = .ok (.bool false) w := by
  change Sem.run P (α := Value) (do
    let some t := (#[tS, tS] : Array TypeId)[0]? | stuck "slices.overlaps: no parameter types"
    let .slice elem ← underlying t | stuck "slices.overlaps: slice type expected"
    let size ← sizeOf elem
    match (some (at_ g o) : Option Addr), (some (at_ g' o') : Option Addr) with
    | some a, some b =>
      if la = 0 ∨ lb = 0 ∨ size = 0 then pure (Value.bool false)
      else if a.block != b.block && (← frozen a) && (← frozen b) then unsupported .addressObserved
      else do
        if a.block != b.block then do
          noView a; noView b
          if ← mayBeOne a b then return Value.bool ((← choose (.extern "sameAddr.stringBytes" 2)) == 1)
        pure (Value.bool (a.block == b.block && a.off < b.off + lb * size && b.off < a.off + la * size))
    | _, _ => pure (Value.bool false)) w = _
  by_cases h0 : la = 0 ∨ lb = 0 ∨ size = 0
  · simp [run_underlying ht, hz, h0]
  by_cases hgg : g = g'
  · subst hgg
    have h2 : (decide (o < o' + lb * size) && decide (o' < o + la * size)) = false := by
      rcases hd rfl with h | h
      · simp only [Bool.and_eq_false_iff, decide_eq_false_iff_not]; exact .inr (by omega)
      · simp only [Bool.and_eq_false_iff, decide_eq_false_iff_not]; exact .inl (by omega)
    simp [run_underlying ht, hz, h0, Sem.run, h2]
  · have hnb : (g != g') = true := by simpa using hgg
    have hnb' : (g == g') = false := by simpa using hgg
    have hfa : w.frozen? (at_ g o) = false := by simp [World.frozen?, hg]
    have hfz : w.frozen? { block := g, off := cur.size } = false := by simp [World.frozen?, hg]
    have hsa : w.shape? g = some (et, cur.size) := by simp [World.shape?, hg]
    obtain ⟨c', e', fr', hg'⟩ : ∃ c' e' fr', w.heap[g']? = some (.cells c' e' fr') := by
      cases hq : w.heap[g']? with
      | none => simp [World.cell?, hq] at hu
      | some ob =>
        cases ob with
        | cells c e fr => exact ⟨_, _, _, rfl⟩
        | _ => simp [World.cell?, hq] at hu
    have hsb : w.shape? g' = some (e', c'.size) := by simp [World.shape?, hg']
    have hk : c'.size ≠ 0 := by
      intro h
      rw [cell_at hg'] at hu
      have := (List.getElem?_eq_some_iff.1 hu).1
      simp at this
      omega
    obtain ⟨kB, hkB⟩ : ∃ kB, c'.size = kB + 1 := ⟨c'.size - 1, by omega⟩
    rw [hkB] at hsb
    cases hfb : w.frozen? (at_ g' o') <;> cases hfe : w.frozen? { block := g', off := kB + 1 } <;>
      simp [run_underlying ht, hz, h0, hnb, hnb', frozen, noView, viewAt, mayBeOne, stringish, shape, Sem.run, hsa, hsb, hfa, hfz, hfb, hfe]
end

/-- What a row's cells hold, from a place on. -/
def Has (cur : Array Value) (off : Nat) (xs : List Value) : Prop := ∀ k u, xs[k]? = some u → cur.toList[off + k]? = some u

theorem laid_toList {cs : Array Value} {P : Nat} {us : List Value} (h : P + us.length ≤ cs.size) (m : Nat) : (laid cs P us).toList[m]? = if P ≤ m ∧ m < P + us.length then us[m - P]? else cs.toList[m]? := by
  unfold laid
  rw [List.toList_toArray, laid_get _ _ _ _ (by simpa using h)]
theorem laid_len {cs : Array Value} {P : Nat} {us : List Value} (h : P + us.length ≤ cs.size) : (laid cs P us).size = cs.size := by
  simp only [laid, List.size_toArray, List.length_append, List.length_take, List.length_drop, Array.length_toList]
  omega

theorem Has.of_at {w : World} {g off : Nat} {xs : List Value} {cur : Array Value} {e : TypeId} {fr : Nat × Nat} (hg : w.heap[g]? = some (Obj.cells cur e fr)) (h : AtW w g off xs) : Has cur off xs := fun k u hk => by
  have := h k u hk
  rw [cell_at hg] at this
  exact this
theorem Has.at {w : World} {g off : Nat} {xs : List Value} {cur : Array Value} {e : TypeId} {fr : Nat × Nat} (hg : w.heap[g]? = some (Obj.cells cur e fr)) (h : Has cur off xs) : AtW w g off xs := fun k u hk => by
  rw [cell_at hg]
  exact h k u hk

/-- The cells of the result: what stood ahead, what is put in, what stood behind. -/
theorem Has.shift {cur : Array Value} {off A Bj : Nat} {xs vs : List Value} (h : Has cur off xs) (hA : A ≤ Bj) (hB : Bj ≤ xs.length) (hfit : off + A + vs.length + (xs.length - Bj) ≤ cur.size) :
    Has (laid (laid cur (off + A + vs.length) (xs.drop Bj)) (off + A) vs) off (xs.take A ++ vs ++ xs.drop Bj) := by
  have hl1 : (xs.drop Bj).length = xs.length - Bj := List.length_drop
  have hf1 : off + A + vs.length + (xs.drop Bj).length ≤ cur.size := by omega
  intro k u hk
  rw [laid_toList (by rw [laid_len hf1]; omega), laid_toList hf1]
  rw [List.append_assoc, List.getElem?_append, List.length_take, Nat.min_eq_left (by omega)] at hk
  split at hk
  · rw [if_neg (by omega), if_neg (by omega)]
    rw [List.getElem?_take_of_lt (by assumption)] at hk
    exact h k u hk
  · rw [List.getElem?_append] at hk
    split at hk
    · rw [if_pos (by omega), show off + k - (off + A) = k - A by omega]
      exact hk
    · rw [if_neg (by omega)]
      have hlt := (List.getElem?_eq_some_iff.1 hk).1
      rw [if_pos (by omega), show off + k - (off + A + vs.length) = k - A - vs.length by omega]
      exact hk
theorem Has.put {cur : Array Value} {off A Bj : Nat} {xs vs zs : List Value} (h : Has cur off xs) (hA : A ≤ Bj) (hB : Bj ≤ xs.length) (hfit : off + A + vs.length + (xs.length - Bj) + zs.length ≤ cur.size) :
    Has (laid (laid (laid cur (off + A) vs) (off + A + vs.length) (xs.drop Bj)) (off + A + vs.length + (xs.length - Bj)) zs) off (xs.take A ++ vs ++ xs.drop Bj) := by
  have hl1 : (xs.drop Bj).length = xs.length - Bj := List.length_drop
  have hf1 : off + A + vs.length ≤ cur.size := by omega
  have hf2 : off + A + vs.length + (xs.drop Bj).length ≤ (laid cur (off + A) vs).size := by rw [laid_len hf1]; omega
  intro k u hk
  have hlt := (List.getElem?_eq_some_iff.1 hk).1
  simp only [List.length_append, List.length_take] at hlt
  rw [laid_toList (by rw [laid_len hf2, laid_len hf1]; omega), laid_toList hf2, laid_toList hf1]
  rw [if_neg (by omega)]
  rw [List.append_assoc, List.getElem?_append, List.length_take, Nat.min_eq_left (by omega)] at hk
  split at hk
  · rw [if_neg (by omega), if_neg (by omega)]
    rw [List.getElem?_take_of_lt (by assumption)] at hk
    exact h k u hk
  · rw [List.getElem?_append] at hk
    split at hk
    · rw [if_neg (by omega), if_pos (by omega), show off + k - (off + A) = k - A by omega]
      exact hk
    · rw [if_pos (by omega), show off + k - (off + A + vs.length) = k - A - vs.length by omega]
      exact hk
end Go.Proofs.Ytgnhojiogkeepaa.V
