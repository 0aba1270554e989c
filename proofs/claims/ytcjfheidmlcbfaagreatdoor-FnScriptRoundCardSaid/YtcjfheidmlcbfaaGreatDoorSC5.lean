/- Plain Lean over the printed functions: the partitions, as the program asks them, and that it is what the reference asks. -/
import Derived.Test.YtcjfheidmlcbfaaGreatDoorSC4
set_option linter.unusedVariables false
set_option linter.unusedSimpArgs false
namespace Go.Proofs.YtcjfheidmlcbfaaGreatDoor.PSr
open Go Go.RowKit Go.Proofs.YtcjfheidmlcbfaaGreatDoor.V Go.Proofs.YtcjfheidmlcbfaaGreatDoor.C

/-! ### Searches -/
theorem idx_parts (l : List S71) (x : ByteArray) (hl : l.length ≤ 1048576) : Ev (fun k => slices_IndexFunc_147_148.f k l x) (idxOf (fun q => decide (q.f0 = x)) l 0) := by
  unfold slices_IndexFunc_147_148.f
  refine Ev.idx l z71 _ (fun k i => slices_IndexFunc_147_148.l4 k l x (l.length : Int) i) (Ev.step ?_) (fun i hi hp => Ev.step ?_) (fun i hi hp v hv => Ev.step ?_)
  · simp only [lenZ_eq, slices_IndexFunc_147_148.l4]; exact Ev.ite_neg (by omega) (Ev.ret _)
  all_goals
    simp only [lenZ_eq, slices_IndexFunc_147_148.l4, impl_partNamed_1.f, Option.bind_some, wrap_succ hi (by omega)]
    refine Ev.ite_pos (lt_in hi) (Ev.ite_pos ge_0 (Ev.ite_pos (lt_in hi) ?_))
  · exact Ev.ite_pos hp (Ev.ret _)
  · exact Ev.ite_neg (fun h => by rw [show decide ((rd_T71 l (i : Int)).f0 = x) = false from hp] at h; cases h) hv
theorem idx_apart (l : List S66) (x : S66) (hl : l.length ≤ 1048576) : Ev (fun k => slices_IndexFunc_165_123.f k l x) (idxOf (fun v => !apartB v x) l 0) := by
  unfold slices_IndexFunc_165_123.f
  refine Ev.idx l z66 _ (fun k i => slices_IndexFunc_165_123.l4 k l x (l.length : Int) i) (Ev.step ?_) (fun i hi hp => Ev.step ?_) (fun i hi hp v hv => Ev.step ?_)
  · simp only [lenZ_eq, slices_IndexFunc_165_123.l4]; exact Ev.ite_neg (by omega) (Ev.ret _)
  all_goals
    simp only [lenZ_eq, slices_IndexFunc_165_123.l4, impl_areParts_1.f, apart_some, Option.bind_some, wrap_succ hi (by omega)]
    refine Ev.ite_pos (lt_in hi) (Ev.ite_pos ge_0 (Ev.ite_pos (lt_in hi) ?_))
  · exact Ev.ite_pos hp (Ev.ret _)
  · exact Ev.ite_neg (fun h => by rw [show (!apartB (rd_T66 l (i : Int)) x) = false from hp] at h; cases h) hv
theorem windowAt1_some (w : S66) (a : Int) : impl_windowAt_1.f w a = some (hasB w a) := by
  unfold impl_windowAt_1.f hasB
  try simp only [lenZ_eq]
  split
  · exact bool_some (by rw [decide_eq_true_eq]; omega)
  · exact no_some (by omega)
theorem idx_window (l : List S66) (x : Int) (hl : l.length ≤ 1048576) : Ev (fun k => slices_IndexFunc_165_194.f k l x) (idxOf (fun v => hasB v x) l 0) := by
  unfold slices_IndexFunc_165_194.f
  refine Ev.idx l z66 _ (fun k i => slices_IndexFunc_165_194.l4 k l x (l.length : Int) i) (Ev.step ?_) (fun i hi hp => Ev.step ?_) (fun i hi hp v hv => Ev.step ?_)
  · simp only [lenZ_eq, slices_IndexFunc_165_194.l4]; exact Ev.ite_neg (by omega) (Ev.ret _)
  all_goals
    simp only [lenZ_eq, slices_IndexFunc_165_194.l4, windowAt1_some, Option.bind_some, wrap_succ hi (by omega)]
    refine Ev.ite_pos (lt_in hi) (Ev.ite_pos ge_0 (Ev.ite_pos (lt_in hi) ?_))
  · exact Ev.ite_pos hp (Ev.ret _)
  · exact Ev.ite_neg (fun h => by rw [show hasB (rd_T66 l (i : Int)) x = false from hp] at h; cases h) hv
theorem idxOf_ge {α : Type} (p : α → Bool) : ∀ (l : List α) (k : Int), 0 ≤ k → (idxOf p l k ≥ 0 ↔ l.any p = true)
  | [], k, h => by simp [idxOf]
  | x :: l, k, h => by
    rw [idxOf, List.any_cons]
    cases hp : p x
    · rw [if_neg (by simp), idxOf_ge p l (k + 1) (by omega), Bool.false_or]
    · simp; exact h
theorem idxOf_find {α : Type} (p : α → Bool) (z : α) : ∀ (l : List α) (i0 : Nat), (idxOf p l i0 = -1 ∧ l.any p = false) ∨ ∃ j : Nat, j < l.length ∧ idxOf p l i0 = ((i0 + j : Nat) : Int) ∧ p (l.getD j z) = true ∧ ∀ m, m < j → p (l.getD m z) = false
  | [], i0 => .inl ⟨rfl, rfl⟩
  | x :: l, i0 => by
    by_cases hx : p x = true
    · right
      refine ⟨0, by simp, ?_, by simpa using hx, fun m hm => absurd hm (by omega)⟩
      simp [idxOf, hx]
    · rw [Bool.not_eq_true] at hx
      have e : idxOf p (x :: l) (i0 : Int) = idxOf p l ((i0 + 1 : Nat) : Int) := by
        simp [idxOf, hx]
      rcases idxOf_find p z l (i0 + 1) with ⟨h1, h2⟩ | ⟨j, h1, h2, h3, h4⟩
      · left
        exact ⟨e.trans h1, by simp [hx, h2]⟩
      · right
        refine ⟨j + 1, by simpa using h1, ?_, by simpa using h3, fun m hm => ?_⟩
        · rw [e, h2]; omega
        · cases m with
          | zero => simpa using hx
          | succ m => simpa using h4 m (by omega)
theorem idxOf_lt {α : Type} (p : α → Bool) (z : α) : ∀ (l : List α) (i0 : Int) (j : Nat), j < l.length → p (l.getD j z) = true → (idxOf p l i0 < i0 + j ↔ (l.take j).any p = true)
  | [], i0, j, hj, _ => by simp at hj
  | x :: l, i0, 0, hj, hp => by
    have hx : p x = true := hp
    simp only [idxOf, hx, if_true]
    simp
  | x :: l, i0, j + 1, hj, hp => by
    have hp' : p (l.getD j z) = true := by simpa using hp
    by_cases hx : p x = true
    · simp only [idxOf, hx, if_true]
      simp [hx]; omega
    · have := idxOf_lt p z l (i0 + 1) j (by simpa using hj) hp'
      rw [idxOf, if_neg hx]
      rw [List.take_succ_cons, List.any_cons]
      rw [Bool.not_eq_true] at hx
      rw [hx, Bool.false_or, ← this]
      constructor <;> intro h <;> omega

/-! ### The partitions, as the program asks them -/
def execB (x : Int) : Bool := !(decide (bitAnd .i64 x 4 = 0))
theorem perm_eq (x : Int) (h1 : 1 ≤ x) (h2 : x ≤ 7) : execB x = decide (wrap64 (x.tdiv 4) = 1) := by
  obtain rfl | rfl | rfl | rfl | rfl | rfl | rfl : x = 1 ∨ x = 2 ∨ x = 3 ∨ x = 4 ∨ x = 5 ∨ x = 6 ∨ x = 7 := by omega
  all_goals kernel_rfl
def winAt (p : S71) (a : Int) : Int := idxOf (fun v => hasB v a) p.f3 0
def runsB (p : S71) (a : Int) : Bool := if winAt p a ≥ 0 then execB (p.f3.getD (winAt p a).toNat z66).f2 else false
theorem winAt_lt (p : S71) (a : Int) (h : winAt p a ≥ 0) : winAt p a < (p.f3.length : Int) := by
  rcases idxOf_find (fun v => hasB v a) z66 p.f3 0 with ⟨h1, _⟩ | ⟨j, h1, h2, _⟩
  · have h1' : winAt p a = -1 := h1
    omega
  · have h2' : winAt p a = ((0 + j : Nat) : Int) := h2
    omega
theorem runs_ev (p : S71) (a : Int) (hl : p.f3.length ≤ 1048576) : Ev (fun k => impl_runsAt.f k p a) (runsB p a) := by
  unfold impl_runsAt.f impl_windowAt.f runsB
  try simp only [lenZ_eq]
  refine Ev.bind (Ev.bind (idx_window p.f3 a hl) (Ev.ret _)) ?_
  show Ev (fun _ => if winAt p a ≥ 0 then _ else _) _
  by_cases h : winAt p a ≥ 0
  · refine Ev.ite_pos h (Ev.ite_pos h (Ev.ite_pos (winAt_lt p a h) (Ev.cast (Ev.ret _) ?_)))
    rw [if_pos h]; rfl
  · exact Ev.ite_neg h (Ev.cast (Ev.ret _) (by rw [if_neg h]))
def nameAt (P : List S71) (s : ByteArray) : Int := idxOf (fun q => decide (q.f0 = s)) P 0
def headPB (P : List S71) (p : S71) (i : Int) : Bool := nameB p.f0 && (!(decide (nameAt P p.f0 < i)) && (policyB p.f2 && inB (p.f3.length : Int) 1 4))
def tailB (p : S71) : Bool := decide (p.f1.tmod 4 = 0) && runsB p p.f1
def winsB (mem : Int) : List S66 → List S66 → Bool
  | [], _ => true
  | x :: ws, all => windowB x && (!decide (wrap64 (x.f0 + x.f1) > mem) && (!(all.any fun v => !apartB v x) && winsB mem ws (all ++ [x])))
def partsB (mem : Int) (P : List S71) : List S71 → Int → List S66 → Bool
  | [], _, _ => true
  | p :: l, i, all => headPB P p i && (winsB mem p.f3 all && (tailB p && partsB mem P l (i + 1) (all ++ p.f3)))
theorem not_prop {b : Bool} {g : Nat → Option Bool} {v : Bool} (hg : b = false → Ev g v) : Ev (fun k => if b = true then some false else g k) (!b && v) := by
  cases b
  · exact hg rfl
  · exact Ev.ret false
theorem areParts_l16 (t : S33) (hP : t.f7.length ≤ 6) (p : S71) (i : Nat) (hp : p.f3.length ≤ 4) (W : List S66 → Bool) (all : List S66) (ha : all.length ≤ 100)
    (hW : ∀ s, s.length ≤ all.length + 4 → Ev (fun k => impl_areParts.l6 k t.f7 (t.f7.length : Int) (wrap64 ((i : Int) + 1)) t s) (W s)) :
    Ev (fun k => impl_areParts.l16 k t.f7 (t.f7.length : Int) (i : Int) p.f3 (p.f3.length : Int) 0 t all p) (winsB t.f0 p.f3 all && (tailB p && W (all ++ p.f3))) := by
  have := Ev.list p.f3 z66 (fun ws all => winsB t.f0 ws all && (tailB p && W (all ++ ws))) (fun j s => s.length = all.length + j) (fun k j s => impl_areParts.l16 k t.f7 (t.f7.length : Int) (i : Int) p.f3 (p.f3.length : Int) j t s p) (fun s hs => Ev.step (by
    simp only [lenZ_eq, impl_areParts.l16, winsB, Bool.true_and, tailB, Bool.and_assoc, List.append_nil]
    exact Ev.ite_neg (by omega) (Ev.and_prop fun _ => Ev.bind (runs_ev p p.f1 (by omega)) (Ev.and_true fun _ => hW s (by omega))))) (fun j hj s hs ih => Ev.step (by
    have hr : rd_T66 p.f3 (j : Int) = p.f3.getD j z66 := rfl
    simp only [lenZ_eq, impl_areParts.l16, hr, implWindow, Option.bind_some, wrap_succ hj (by omega), winsB, Bool.and_assoc]
    generalize p.f3.getD j z66 = x at ih ⊢
    refine Ev.ite_pos (lt_in hj) (Ev.ite_pos ge_0 (Ev.ite_pos (lt_in hj) (Ev.and_true fun _ => Ev.or_prop fun _ => ?_)))
    refine Ev.bind (a := s.any fun v => !apartB v x) ?_ (not_prop fun _ => Ev.ite_pos (by simp; omega) (Ev.cast (ih (s ++ [x]) (by simp; omega)) (by simp)))
    unfold slices_ContainsFunc_122_123.f
    refine Ev.bind (idx_apart s x (by omega)) (Ev.cast (Ev.ret _) ?_)
    rw [Bool.eq_iff_iff, decide_eq_true_eq, idxOf_ge _ _ _ (Int.le_refl 0)])) p.f3.length 0 (by omega) all (by omega)
  simpa using this
theorem areParts_l6 (t : S33) (hP : t.f7.length ≤ 6) (hnm : ∀ p ∈ t.f7, p.f0.size ≤ 9223372036854775807) : ∀ (n i : Nat) (all : List S66), i + n = t.f7.length → all.length ≤ 4 * i → Ev (fun k => impl_areParts.l6 k t.f7 (t.f7.length : Int) (i : Int) t all) (partsB t.f0 t.f7 (t.f7.drop i) (i : Int) all)
  | 0, i, all, hi, ha => by
    rw [List.drop_of_length_le (by omega)]
    refine Ev.step ?_
    simp only [lenZ_eq, impl_areParts.l6]
    exact Ev.ite_neg (by omega) (Ev.ret _)
  | n + 1, i, all, hi, ha => by
    have hlt : i < t.f7.length := by omega
    have hr : rd_T71 t.f7 (i : Int) = t.f7.getD i z71 := rfl
    have hs := hnm _ (getD_mem (z := z71) hlt)
    have ih := areParts_l6 t hP hnm n (i + 1)
    rw [Ev.drop_getD t.f7 z71 i hlt, partsB]
    refine Ev.step ?_
    simp only [lenZ_eq, impl_areParts.l6, hr, implPolicy, within_some, Option.bind_some]
    generalize t.f7.getD i z71 = p at hs
    refine Ev.ite_pos (lt_in hlt) (Ev.ite_pos ge_0 (Ev.ite_pos (lt_in hlt) ?_))
    rw [headPB, Bool.and_assoc, Bool.and_assoc, Bool.and_assoc]
    refine Ev.bind (implName p.f0 hs) (Ev.and_true fun _ => ?_)
    refine Ev.bind (a := nameAt t.f7 p.f0) (by unfold impl_partNamed.f; exact Ev.bind (idx_parts t.f7 p.f0 (by omega)) (Ev.ret _)) (Ev.or_prop fun _ => Ev.and_true fun _ => Ev.and_true fun h4 => ?_)
    have h4' := in_iff.1 h4
    have hc : (i : Int) + 1 = ((i + 1 : Nat) : Int) := by omega
    refine areParts_l16 t hP p i (by omega) (fun s => partsB t.f0 t.f7 (t.f7.drop (i + 1)) ((i : Int) + 1) s) all (by omega) fun s hs' => ?_
    rw [wrap_succ hlt (by omega), hc]
    exact ih s (by omega) (by omega)
theorem implParts (t : S33) (hP : t.f7.length ≤ 6) (hnm : ∀ p ∈ t.f7, p.f0.size ≤ 9223372036854775807) : Ev (fun k => impl_areParts.f k t) (partsB t.f0 t.f7 t.f7 0 []) := by
  unfold impl_areParts.f
  try simp only [lenZ_eq]
  exact areParts_l6 t hP hnm t.f7.length 0 [] (by omega) (by simp)

/-! ### They ask the same -/
def Apt (x y : S66) : Prop := apartB x y = true
theorem take_succ_getD {α : Type} (z : α) (l : List α) (i : Nat) (h : i < l.length) : l.take (i + 1) = l.take i ++ [l.getD i z] := by
  rw [List.take_add_one, List.getD_eq_getElem?_getD, List.getElem?_eq_getElem h]
  rfl
theorem sub_flat : ∀ (P : List S71) (p : S71), p ∈ P → p.f3.Sublist (P.flatMap (·.f3))
  | [], p, h => by cases h
  | x :: l, p, h => by
    rw [List.flatMap_cons]
    rcases List.mem_cons.1 h with rfl | h
    · exact List.sublist_append_left _ _
    · exact (sub_flat l p h).trans (List.sublist_append_right _ _)
theorem pairs_iff (all : List S66) : ∀ (n i : Nat), i + n = all.length → (all.take i).Pairwise Apt → (pairsFrom all n i = true ↔ all.Pairwise Apt)
  | 0, i, hi, hp => by
    rw [List.take_of_length_le (by omega)] at hp
    simp only [pairsFrom, true_iff]
    exact hp
  | n + 1, i, hi, hp => by
    have ht := take_succ_getD z66 all i (by omega)
    have hw : ((all.take i).all (fun v => apartB v (all.getD i z66)) = true) ↔ (all.take (i + 1)).Pairwise Apt := by
      rw [ht, List.pairwise_append, List.all_eq_true]
      constructor
      · intro h
        refine ⟨hp, List.pairwise_singleton _ _, fun a ha b hb => ?_⟩
        rw [List.mem_singleton] at hb
        subst hb
        exact h a ha
      · rintro ⟨_, _, h⟩ a ha
        exact h a ha _ (by simp)
    simp only [pairsFrom, Bool.and_eq_true]
    constructor
    · rintro ⟨h1, h2⟩
      exact (pairs_iff all n (i + 1) (by omega) (hw.1 h1)).1 h2
    · intro h
      have h1 : (all.take (i + 1)).Pairwise Apt := h.sublist (List.take_sublist _ _)
      exact ⟨hw.2 h1, (pairs_iff all n (i + 1) (by omega) h1).2 h⟩
theorem wins_iff (mem : Int) : ∀ (ws all : List S66), all.Pairwise Apt → (winsB mem ws all = true ↔ (∀ x ∈ ws, okW mem x = true) ∧ (all ++ ws).Pairwise Apt)
  | [], all, h => by simp [winsB, h]
  | x :: ws, all, h => by
    have hw : (!(all.any fun v => !apartB v x)) = true ↔ (all ++ [x]).Pairwise Apt := by
      rw [List.pairwise_append, Bool.not_eq_true', List.any_eq_false]
      constructor
      · intro hh
        refine ⟨h, List.pairwise_singleton _ _, fun a ha b hb => ?_⟩
        rw [List.mem_singleton] at hb
        subst hb
        have := hh a ha
        simpa [Apt] using this
      · rintro ⟨_, _, hh⟩ a ha
        have := hh a ha x (by simp)
        simpa [Apt] using this
    rw [winsB, Bool.and_eq_true, Bool.and_eq_true, Bool.and_eq_true, hw]
    have e : all ++ x :: ws = (all ++ [x]) ++ ws := by simp
    rw [e]
    constructor
    · rintro ⟨h1, h2, h3, h4⟩
      obtain ⟨h5, h6⟩ := (wins_iff mem ws _ h3).1 h4
      refine ⟨fun y hy => ?_, h6⟩
      rcases List.mem_cons.1 hy with rfl | hy
      · rw [okW, Bool.and_eq_true]; exact ⟨h1, h2⟩
      · exact h5 y hy
    · rintro ⟨h1, h2⟩
      have h3 : (all ++ [x]).Pairwise Apt := (List.pairwise_append.1 h2).1
      have h4 := h1 x (by simp)
      rw [okW, Bool.and_eq_true] at h4
      exact ⟨h4.1, h4.2, h3, (wins_iff mem ws _ h3).2 ⟨fun y hy => h1 y (by simp [hy]), h2⟩⟩
theorem names_iff (P : List S71) (j : Nat) (hj : j < P.length) : (!decide (nameAt P (P.getD j z71).f0 < (j : Int))) = namesNe P j := by
  have h := idxOf_lt (fun x => decide (x.f0 = (P.getD j z71).f0)) z71 P 0 j hj (by simp)
  rw [Int.zero_add] at h
  rw [Bool.eq_iff_iff]
  unfold namesNe
  rw [Bool.not_eq_true', decide_eq_false_iff_not]
  unfold nameAt
  rw [h, List.all_eq_true, Bool.not_eq_true, List.any_eq_false]
  constructor
  · intro hh x hx
    have := hh x hx
    simpa using this
  · intro hh x hx
    have := hh x hx
    simpa using this
theorem has_in {x : S66} {a : Int} (hw : windowB x = true) : hasB x a = true ↔ x.f0 ≤ a ∧ a < x.f0 + x.f1 := by
  have h := window_in.1 hw
  unfold hasB
  rw [wrap_of (by omega) (by omega), decide_eq_true_eq]
theorem apart_in {x y : S66} (hx : windowB x = true) (hy : windowB y = true) : apartB x y = true ↔ (x.f0 + x.f1 ≤ y.f0 ∨ y.f0 + y.f1 ≤ x.f0) := by
  have h1 := window_in.1 hx
  have h2 := window_in.1 hy
  unfold apartB
  rw [wrap_of (a := x.f0 + x.f1) (by omega) (by omega), wrap_of (a := y.f0 + y.f1) (by omega) (by omega), decide_eq_true_eq]
theorem runs_eq (p : S71) (hw : ∀ x ∈ p.f3, windowB x = true) (hp : p.f3.Pairwise Apt) : runsB p p.f1 = p.f3.any (hasP p) := by
  unfold runsB winAt
  rcases idxOf_find (fun x => hasB x p.f1) z66 p.f3 0 with ⟨h1, h2⟩ | ⟨j, h1, h2, h3, h4⟩
  · have h1' : idxOf (fun x => hasB x p.f1) p.f3 0 = -1 := h1
    rw [h1', if_neg (by omega), eq_comm, List.any_eq_false]
    intro x hx
    have := List.any_eq_false.1 h2 x hx
    simp only [hasP, Bool.and_eq_true, not_and]
    intro hh
    exact absurd hh this
  · have h2' : idxOf (fun x => hasB x p.f1) p.f3 0 = ((0 + j : Nat) : Int) := h2
    rw [Nat.zero_add] at h2'
    rw [h2', if_pos (by omega), Int.toNat_natCast]
    have hm := getD_mem (z := z66) h1
    have hwin := window_in.1 (hw _ hm)
    rw [perm_eq _ hwin.2.2.2.2.2.1 hwin.2.2.2.2.2.2, Bool.eq_iff_iff, decide_eq_true_eq, List.any_eq_true]
    constructor
    · intro h
      exact ⟨_, hm, by rw [hasP, Bool.and_eq_true, decide_eq_true_eq]; exact ⟨h3, h⟩⟩
    · rintro ⟨y, hy, hh⟩
      rw [hasP, Bool.and_eq_true, decide_eq_true_eq] at hh
      obtain ⟨m, hlt, rfl⟩ := List.getElem_of_mem hy
      have hg : p.f3.getD m z66 = p.f3[m] := by rw [List.getD_eq_getElem?_getD, List.getElem?_eq_getElem hlt]; rfl
      have hg2 : p.f3.getD j z66 = p.f3[j] := by rw [List.getD_eq_getElem?_getD, List.getElem?_eq_getElem h1]; rfl
      by_cases hmj : m < j
      · have := h4 m hmj
        rw [hg] at this
        rw [this] at hh
        cases hh.1
      · by_cases hjm : j < m
        · have hap := List.pairwise_iff_getElem.1 hp j m h1 hlt hjm
          have hx1 := hw _ (List.getElem_mem h1)
          have hx2 := hw _ (List.getElem_mem hlt)
          rw [Apt, apart_in hx1 hx2] at hap
          rw [hg2] at h3
          have e1 := (has_in hx1).1 h3
          have e2 := (has_in hx2).1 hh.1
          omega
        · have : m = j := by omega
          subst this
          rw [hg]
          exact hh.2
theorem partsB_iff (mem : Int) (P : List S71) : ∀ (n i : Nat) (all : List S66), i + n = P.length → all.Pairwise Apt →
    (partsB mem P (P.drop i) (i : Int) all = true ↔ (∀ j, i ≤ j → j < P.length → headPB P (P.getD j z71) (j : Int) = true ∧ (∀ x ∈ (P.getD j z71).f3, okW mem x = true) ∧ tailB (P.getD j z71) = true) ∧ (all ++ (P.drop i).flatMap (·.f3)).Pairwise Apt)
  | 0, i, all, hi, hp => by
    rw [List.drop_of_length_le (by omega)]
    simp only [partsB, List.flatMap_nil, List.append_nil, true_iff]
    exact ⟨fun j h1 h2 => absurd h2 (by omega), hp⟩
  | n + 1, i, all, hi, hp => by
    rw [Ev.drop_getD P z71 i (by omega), partsB, List.flatMap_cons, Bool.and_eq_true, Bool.and_eq_true, Bool.and_eq_true, wins_iff mem _ _ hp, ← List.append_assoc]
    have hc : (i : Int) + 1 = ((i + 1 : Nat) : Int) := by omega
    rw [hc]
    constructor
    · rintro ⟨h1, ⟨h2, h3⟩, h4, h5⟩
      obtain ⟨h6, h7⟩ := (partsB_iff mem P n (i + 1) _ (by omega) h3).1 h5
      refine ⟨fun j hij hj => ?_, h7⟩
      by_cases e : i = j
      · subst e; exact ⟨h1, h2, h4⟩
      · exact h6 j (by omega) hj
    · rintro ⟨h1, h2⟩
      have h3 := (List.pairwise_append.1 h2).1
      obtain ⟨g1, g2, g3⟩ := h1 i (by omega) (by omega)
      exact ⟨g1, ⟨g2, h3⟩, g3, (partsB_iff mem P n (i + 1) _ (by omega) h3).2 ⟨fun j hij hj => h1 j (by omega) hj, h2⟩⟩
theorem partsFrom_iff (mem : Int) (P : List S71) : ∀ (n i : Nat), partsFrom mem P n i = true ↔ ∀ j, i ≤ j → j < i + n → partOkB mem (P.getD j z71) = true ∧ namesNe P j = true
  | 0, i => by simp only [partsFrom, true_iff]; intro j h1 h2; omega
  | n + 1, i => by
    rw [partsFrom, Bool.and_eq_true, Bool.and_eq_true, partsFrom_iff mem P n]
    constructor
    · rintro ⟨h1, h2, h3⟩ j hij hj
      by_cases e : i = j
      · subst e; exact ⟨h1, h2⟩
      · exact h3 j (by omega) (by omega)
    · intro h
      obtain ⟨h1, h2⟩ := h i (by omega) (by omega)
      exact ⟨h1, h2, fun j hij hj => h j (by omega) (by omega)⟩
theorem parts_eq (mem : Int) (P : List S71) : (partsFrom mem P P.length 0 && pairsFrom (P.flatMap (·.f3)) (P.flatMap (·.f3)).length 0) = partsB mem P P 0 [] := by
  rw [Bool.eq_iff_iff, Bool.and_eq_true, partsFrom_iff, pairs_iff _ _ 0 (Nat.zero_add _) (by simp)]
  have h := partsB_iff mem P P.length 0 [] (Nat.zero_add _) List.Pairwise.nil
  rw [List.drop_zero, List.nil_append] at h
  change partsB mem P P 0 [] = true ↔ _ at h
  rw [h]
  constructor
  · rintro ⟨h1, h2⟩
    refine ⟨fun j h0 hj => ?_, h2⟩
    obtain ⟨g1, g2⟩ := h1 j h0 (by omega)
    simp only [partOkB, partokV, Bool.and_eq_true, Bool.false_or, List.all_eq_true] at g1
    obtain ⟨q1, q2, q3, q4, q5, q6⟩ := g1
    have hp : (P.getD j z71).f3.Pairwise Apt := h2.sublist (sub_flat P _ (getD_mem hj))
    refine ⟨?_, q4, ?_⟩
    · rw [headPB, names_iff P j hj, g2, q1, q2, q3]; rfl
    · rw [tailB, runs_eq _ (fun x hx => by have := q4 x hx; rw [okW, Bool.and_eq_true] at this; exact this.1) hp, q5, q6]; rfl
  · rintro ⟨h1, h2⟩
    refine ⟨fun j h0 hj => ?_, h2⟩
    obtain ⟨g1, g2, g3⟩ := h1 j h0 (by omega)
    rw [headPB, names_iff P j (by omega), Bool.and_eq_true, Bool.and_eq_true, Bool.and_eq_true] at g1
    have hp : (P.getD j z71).f3.Pairwise Apt := h2.sublist (sub_flat P _ (getD_mem (by omega)))
    rw [tailB, runs_eq _ (fun x hx => by have := g2 x hx; rw [okW, Bool.and_eq_true] at this; exact this.1) hp, Bool.and_eq_true] at g3
    refine ⟨?_, g1.2.1⟩
    rw [partOkB, partokV, g1.1, g1.2.2.1, g1.2.2.2, g3.1, Bool.false_or, g3.2, List.all_eq_true.2 g2]; rfl
end Go.Proofs.YtcjfheidmlcbfaaGreatDoor.PSr
