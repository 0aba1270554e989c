/- Plain Lean, no program in sight: "from some fuel on it answers", and loops. -/
import Derived.Test.YtcjfheidmlcbfaaGreatDoorSV12
set_option linter.unusedVariables false
set_option linter.unusedSimpArgs false
namespace Go.Proofs.YtcjfheidmlcbfaaGreatDoor.C
open Go Go.RowKit Go.Proofs.YtcjfheidmlcbfaaGreatDoor.V

/-- From some fuel on, g answers v. -/
def Ev {α : Type} (g : Nat → Option α) (v : α) : Prop := ∃ K, ∀ k, K ≤ k → g k = some v
namespace Ev
variable {α β : Type}
theorem ret (v : α) : Ev (fun _ => some v) v := ⟨0, fun _ _ => rfl⟩
theorem of {x : Option α} {v : α} (h : x = some v) : Ev (fun _ => x) v := ⟨0, fun _ _ => h⟩
theorem bind {g : Nat → Option α} {h : Nat → α → Option β} {a : α} {b : β} (hg : Ev g a) (hh : Ev (fun k => h k a) b) : Ev (fun k => (g k).bind (h k)) b := by
  obtain ⟨K, hK⟩ := hg
  obtain ⟨L, hL⟩ := hh
  refine ⟨max K L, fun k hk => ?_⟩
  show (g k).bind (h k) = _
  rw [hK k (by omega)]
  exact hL k (by omega)
theorem step {g : Nat → Option α} {v : α} (h : Ev (fun k => g (k + 1)) v) : Ev g v := by
  obtain ⟨K, hK⟩ := h
  refine ⟨K + 1, fun k hk => ?_⟩
  obtain ⟨j, rfl⟩ : ∃ j, k = j + 1 := ⟨k - 1, by omega⟩
  exact hK j (by omega)
theorem ite_pos {c : Prop} [Decidable c] {g h : Nat → Option α} {v : α} (hc : c) (hg : Ev g v) : Ev (fun k => if c then g k else h k) v := by
  simpa only [if_pos hc] using hg
theorem ite_neg {c : Prop} [Decidable c] {g h : Nat → Option α} {v : α} (hc : ¬ c) (hg : Ev h v) : Ev (fun k => if c then g k else h k) v := by
  simpa only [if_neg hc] using hg
theorem ite_both {c : Prop} [Decidable c] {g h : Nat → Option α} {v : α} (hg : c → Ev g v) (hh : ¬ c → Ev h v) : Ev (fun k => if c then g k else h k) v := by
  by_cases hc : c
  · simpa only [if_pos hc] using hg hc
  · simpa only [if_neg hc] using hh hc
/-- `if b then .. else false`. -/
theorem and_true {b : Bool} {g : Nat → Option Bool} {v : Bool} (hg : b = true → Ev g v) : Ev (fun k => if b = true then g k else some false) (b && v) := by
  cases b
  · exact ret false
  · exact hg rfl
theorem and_prop {c : Prop} [Decidable c] {g : Nat → Option Bool} {v : Bool} (hg : c → Ev g v) : Ev (fun k => if c then g k else some false) (decide c && v) := by
  by_cases hc : c
  · simpa [hc] using hg hc
  · simpa [hc] using ret false
theorem or_prop {c : Prop} [Decidable c] {g : Nat → Option Bool} {v : Bool} (hg : ¬ c → Ev g v) : Ev (fun k => if c then some false else g k) (!(decide c) && v) := by
  by_cases hc : c
  · simpa [hc] using ret false
  · simpa [hc] using hg hc
theorem get {g : Nat → Option α} {v : α} (h : Ev g v) : ∃ k, g k = some v := let ⟨K, hK⟩ := h; ⟨K, hK K (Nat.le_refl _)⟩
theorem cast {g : Nat → Option α} {v u : α} (h : Ev g v) (he : v = u) : Ev g u := he ▸ h
theorem uniq {g : Nat → Option α} {v u : α} (h : Ev g v) (h' : Ev g u) : v = u := by
  obtain ⟨K, hK⟩ := h
  obtain ⟨L, hL⟩ := h'
  have h1 := hK (max K L) (by omega)
  rw [hL (max K L) (by omega)] at h1
  exact (Option.some.inj h1).symm

/-- A loop down from n. -/
theorem down {σ : Type} (n : Nat) (L : Nat → Int → σ → Option β) (I : Nat → σ → Prop) (V : Nat → σ → β) (hend : ∀ s, I n s → Ev (fun k => L k (n : Int) s) (V n s))
    (hstep : ∀ i, i < n → ∀ s, I i s → (∀ s', I (i + 1) s' → Ev (fun k => L k ((i + 1 : Nat) : Int) s') (V (i + 1) s')) → Ev (fun k => L k (i : Int) s) (V i s)) : ∀ (m i : Nat), i + m = n → ∀ s, I i s → Ev (fun k => L k (i : Int) s) (V i s)
  | 0, i, h, s, hs => by
    obtain rfl : i = n := by omega
    exact hend s hs
  | m + 1, i, h, s, hs => hstep i (by omega) s hs fun s' hs' => down n L I V hend hstep m (i + 1) (by omega) s' hs'

theorem set_step (f : α → β) (za : α) (z : β) (l : List α) (i m : Nat) (h : i < l.length) : ((l.take i).map f ++ List.replicate (m + 1) z).set i (f (l.getD i za)) = (l.take (i + 1)).map f ++ List.replicate m z := by
  have hl : ((l.take i).map f).length = i := by simp; omega
  have ht : l.take (i + 1) = l.take i ++ [l.getD i za] := by
    rw [List.take_add_one, List.getD_eq_getElem?_getD, List.getElem?_eq_getElem h]
    rfl
  rw [List.set_append_right _ _ (by omega), hl, Nat.sub_self, List.replicate_succ, List.set_cons_zero, ht, List.map_append, List.append_assoc]
  rfl
/-- `for i := range x { h[i] = g(x[i]) }`. -/
theorem maploop (x : List α) (za : α) (zb : β) (g : α → β) (L : Nat → Int → List β → Option (List β)) (hend : ∀ h, h.length = x.length → Ev (fun k => L k (x.length : Int) h) h)
    (hstep : ∀ i, i < x.length → ∀ h, h.length = x.length → ∀ v, Ev (fun k => L k ((i + 1 : Nat) : Int) (h.set i (g (x.getD i za)))) v → Ev (fun k => L k (i : Int) h) v) : Ev (fun k => L k 0 (List.replicate x.length zb)) (x.map g) := by
  have key : ∀ (m i : Nat), i + m = x.length → Ev (fun k => L k (i : Int) ((x.take i).map g ++ List.replicate m zb)) (x.map g) := by
    intro m
    induction m with
    | zero =>
      intro i hi
      obtain rfl : i = x.length := by omega
      have := hend ((x.take x.length).map g ++ List.replicate 0 zb) (by simp)
      simpa using this
    | succ m ih =>
      intro i hi
      refine hstep i (by omega) _ (by simp; omega) _ ?_
      rw [set_step g za zb x i m (by omega)]
      exact ih (i + 1) (by omega)
  exact key x.length 0 (by omega)

theorem drop_getD (l : List α) (z : α) (i : Nat) (h : i < l.length) : l.drop i = l.getD i z :: l.drop (i + 1) := by
  rw [List.drop_eq_getElem_cons h, List.getD_eq_getElem?_getD, List.getElem?_eq_getElem h]
  rfl
/-- `for _, x := range l { if !p(x) { return false } }; return W`. -/
theorem all (l : List α) (z : α) (p : α → Bool) (L : Nat → Int → Option Bool) (W : Bool) (hend : l.all p = true → Ev (fun k => L k (l.length : Int)) W)
    (hstep : ∀ i, i < l.length → ∀ v, Ev (fun k => L k ((i + 1 : Nat) : Int)) v → Ev (fun k => L k (i : Int)) (p (l.getD i z) && v))
    (hstop : ∀ i, i < l.length → p (l.getD i z) = false → Ev (fun k => L k (i : Int)) false) : Ev (fun k => L k 0) (l.all p && W) := by
  have key : ∀ (m i : Nat), i + m = l.length → (l.take i).all p = true → Ev (fun k => L k (i : Int)) ((l.drop i).all p && W) := by
    intro m
    induction m with
    | zero =>
      intro i hi ha
      obtain rfl : i = l.length := by omega
      have := hend (by simpa using ha)
      simpa using this
    | succ m ih =>
      intro i hi ha
      rw [drop_getD l z i (by omega), List.all_cons, Bool.and_assoc]
      cases hp : p (l.getD i z)
      · simpa using hstop i (by omega) hp
      · have := hstep i (by omega) _ (ih (i + 1) (by omega) (by
          rw [List.take_add_one, List.all_append, ha, List.getElem?_eq_getElem (by omega)]
          rw [List.getD_eq_getElem?_getD, List.getElem?_eq_getElem (by omega : i < l.length)] at hp
          simpa using hp))
        rw [hp] at this
        exact this
  have := key l.length 0 (by omega) rfl
  simpa using this
theorem allN (n : Nat) (p : Nat → Bool) (L : Nat → Int → Option Bool) (W : Bool) (hend : Ev (fun k => L k (n : Int)) W)
    (hstep : ∀ i, i < n → ∀ v, Ev (fun k => L k ((i + 1 : Nat) : Int)) v → Ev (fun k => L k (i : Int)) (p i && v)) : ∀ (m i : Nat), i + m = n → Ev (fun k => L k (i : Int)) (((List.range n).drop i).all p && W)
  | 0, i, h => by
    obtain rfl : i = n := by omega
    have : (List.range i).drop i = [] := List.drop_of_length_le (by simp)
    simpa [this] using hend
  | m + 1, i, h => by
    have hd : (List.range n).drop i = i :: (List.range n).drop (i + 1) := by
      rw [List.drop_eq_getElem_cons (by simp; omega)]; simp
    rw [hd, List.all_cons, Bool.and_assoc]
    exact hstep i (by omega) _ (allN n p L W hend hstep m (i + 1) (by omega))
/-- A loop over a list, with a state: from i on. -/
theorem list {σ : Type} (l : List α) (z : α) (V : List α → σ → β) (I : Nat → σ → Prop) (L : Nat → Int → σ → Option β) (hend : ∀ s, I l.length s → Ev (fun k => L k (l.length : Int) s) (V [] s))
    (hstep : ∀ i, i < l.length → ∀ s, I i s → (∀ s', I (i + 1) s' → Ev (fun k => L k ((i + 1 : Nat) : Int) s') (V (l.drop (i + 1)) s')) → Ev (fun k => L k (i : Int) s) (V (l.getD i z :: l.drop (i + 1)) s)) :
    ∀ (m i : Nat), i + m = l.length → ∀ s, I i s → Ev (fun k => L k (i : Int) s) (V (l.drop i) s)
  | 0, i, h, s, hs => by
    obtain rfl : i = l.length := by omega
    rw [List.drop_of_length_le (Nat.le_refl _)]
    exact hend s hs
  | m + 1, i, h, s, hs => by
    rw [drop_getD l z i (by omega)]
    exact hstep i (by omega) s hs fun s' hs' => list l z V I L hend hstep m (i + 1) (by omega) s' hs'
end Ev

/-- The first index at which p holds, from k on. -/
def idxOf {α : Type} (p : α → Bool) : List α → Int → Int
  | [], _ => -1
  | x :: l, k => if p x = true then k else idxOf p l (k + 1)
theorem Ev.idx {α : Type} (l : List α) (z : α) (p : α → Bool) (L : Nat → Int → Option Int) (hend : Ev (fun k => L k (l.length : Int)) (-1))
    (hyes : ∀ i, i < l.length → p (l.getD i z) = true → Ev (fun k => L k (i : Int)) (i : Int))
    (hno : ∀ i, i < l.length → p (l.getD i z) = false → ∀ v, Ev (fun k => L k ((i + 1 : Nat) : Int)) v → Ev (fun k => L k (i : Int)) v) : Ev (fun k => L k 0) (idxOf p l 0) := by
  have key : ∀ (m i : Nat), i + m = l.length → Ev (fun k => L k (i : Int)) (idxOf p (l.drop i) (i : Int)) := by
    intro m
    induction m with
    | zero =>
      intro i hi
      obtain rfl : i = l.length := by omega
      simpa [idxOf] using hend
    | succ m ih =>
      intro i hi
      rw [Ev.drop_getD l z i (by omega), idxOf]
      cases hp : p (l.getD i z)
      · rw [if_neg (by simp)]
        exact hno i (by omega) hp _ (by simpa using ih (i + 1) (by omega))
      · rw [if_pos rfl]
        exact hyes i (by omega) hp
  have := key l.length 0 (by omega)
  simpa using this

theorem wrap_of {a : Int} (h0 : -9223372036854775808 ≤ a) (h1 : a ≤ 9223372036854775807) : wrap64 a = a := by unfold wrap64; omega
theorem wrap_succ {i n : Nat} (h : i < n) (hn : n ≤ 9223372036854775807) : wrap64 ((i : Int) + 1) = ((i + 1 : Nat) : Int) := by unfold wrap64; omega
theorem lt_in {i n : Nat} (h : i < n) : (i : Int) < (n : Int) := by omega
theorem ge_0 {i : Nat} : (0 : Int) ≤ (i : Int) := by omega
theorem getD_mem {α : Type} {l : List α} {z : α} {i : Nat} (h : i < l.length) : l.getD i z ∈ l := by
  rw [List.getD_eq_getElem?_getD, List.getElem?_eq_getElem h]; exact List.getElem_mem _
end Go.Proofs.YtcjfheidmlcbfaaGreatDoor.C
