/- Plain Lean over the printed functions: shares, gaps, latencies of cut slots; tables compared; what is drawn for them. -/
import Derived.Test.YtgnhojiogkeepaaD4
import Derived.Test.YtgnhojiogkeepaaC20
set_option linter.unusedVariables false
set_option linter.unusedSimpArgs false
set_option linter.unusedSectionVars false
namespace Go.Proofs.Ytgnhojiogkeepaa.PSp
open Go Go.RowKit Go.Proofs.Ytgnhojiogkeepaa.V Go.Proofs.Ytgnhojiogkeepaa.C

/-! ### What is drawn -/
theorem any_set {t : S50} (h : Any t) (m : Int) {l : List S86} (hl : l.length = t.f10.length) : Any ((t.f0, t.f1, t.f2, t.f3, t.f4, t.f5, m, t.f7, t.f8, t.f9, l) : S50) :=
  ⟨h.parts, h.part, h.devs, h.chans, by show l.length ≤ 16; rw [hl]; exact h.slots⟩

/-! ### Shares, gaps, latencies -/
def shareL (d p : Int) : List S86 → Int
  | [] => 0
  | s :: l => (if s.f0 = p then s.f2 - d else 0) + shareL d p l
def sumL : List S86 → Int
  | [] => 0
  | s :: l => s.f2 + sumL l
def InL (l : List S86) : Prop := ∀ s ∈ l, 0 ≤ s.f1 ∧ s.f1 ≤ 5000 ∧ 0 ≤ s.f2 ∧ s.f2 ≤ 5000
theorem slotsL_in {t : S50} (ht : SpansIn t) : ∀ (l : List S86) (fin : Int), 0 ≤ fin → slotsL t l fin = true → InL l
  | [], _, _, _ => fun s hs => by cases hs
  | s :: l, fin, h0, h => by
    have hp := ht.pad; have hg := ht.guard; have hm := ht.major
    simp only [slotsL, Bool.and_eq_true] at h
    obtain ⟨_, h2, h3⟩ := h
    have h2 := of_decide_eq_true h2
    have ih := slotsL_in ht l (s.f1 + s.f2) (by omega) h3
    intro x hx
    rcases List.mem_cons.1 hx with rfl | hx
    · omega
    · exact ih x hx
theorem sound_in {t : S50} (h : soundB t = true) : SpansIn t ∧ InL t.f10 := by
  unfold soundB at h
  simp only [Bool.and_eq_true] at h
  have ht := (head_in h.1).2.2
  have h4 := h.2.2.2
  unfold slotsB at h4
  simp only [Bool.and_eq_true] at h4
  exact ⟨ht, slotsL_in ht _ _ (Int.le_refl 0) h4.1⟩
theorem shareL_in {d p : Int} (hd : 0 ≤ d ∧ d ≤ 10000) : ∀ (l : List S86), InL l → -10000 * (l.length : Int) ≤ shareL d p l ∧ shareL d p l ≤ 5000 * (l.length : Int)
  | [], _ => by simp [shareL]
  | s :: l, h => by
    have ih := shareL_in hd (p := p) l fun x hx => h x (by simp [hx])
    have hs := h s (by simp)
    simp only [shareL, List.length_cons]
    split <;> omega
theorem share_ev (t : S50) (hp : SpansIn t) (p : Int) (l : List S86) (hl : l.length ≤ 100) (hb : InL l) (m : Nat) : ∀ (i : Nat) (x : Int), i + m = l.length → -1000000000 + 40000 * (m : Int) ≤ x → x ≤ 1000000000 - 40000 * (m : Int) → Ev (fun k => impl_ShareOf.l10 k p x l (l.length : Int) (i : Int) t) (x + shareL (t.f4 + t.f5) p (l.drop i)) := by
  have h4 := hp.pad; have h5 := hp.guard
  induction m with
  | zero =>
    intro i x hi _ _
    refine Ev.step ?_
    rw [List.drop_of_length_le (by omega)]
    simp only [lenZ_eq, impl_ShareOf.l10, shareL, Int.add_zero]
    exact Ev.ite_neg (by omega) (Ev.ret _)
  | succ m ih =>
    intro i x hi h0 h1
    have hlt : i < l.length := by omega
    have hs := hb _ (getD_mem (z := z86) hlt)
    refine Ev.step ?_
    rw [Ev.drop_getD l z86 i hlt]
    simp only [lenZ_eq, impl_ShareOf.l10, rd_T86, Int.toNat_natCast, wrap_succ hlt (by omega), shareL]
    rw [wrap_of (a := (l.getD i z86).f2 - t.f4) (by omega) (by omega), wrap_of (a := (l.getD i z86).f2 - t.f4 - t.f5) (by omega) (by omega), wrap_of (a := x + ((l.getD i z86).f2 - t.f4 - t.f5)) (by omega) (by omega)]
    refine Ev.ite_pos (lt_in hlt) (Ev.ite_pos ge_0 (Ev.ite_pos (lt_in hlt) ?_))
    by_cases c : (l.getD i z86).f0 = p
    · rw [if_pos c]
      refine Ev.ite_pos c (Ev.cast (ih (i + 1) _ (by omega) (by omega) (by omega)) (by omega))
    · rw [if_neg c]
      exact Ev.ite_neg c (Ev.cast (ih (i + 1) _ (by omega) (by omega) (by omega)) (by omega))
theorem shareOf_ev {t : S50} (h : Small t) (hnm : ∀ p ∈ t.f7, p.f0.size ≤ 9223372036854775807) (hs : soundB t = true) (p : Int) : Ev (fun k => impl_ShareOf.f k t p) (shareL (t.f4 + t.f5) p t.f10) := by
  obtain ⟨hp, hb⟩ := sound_in hs
  have hl := sound_len hs
  unfold impl_ShareOf.f
  try simp only [lenZ_eq]
  refine Ev.bind (implSound t h hnm) (Ev.ite_pos hs ?_)
  refine Ev.cast (share_ev t hp p t.f10 (by omega) hb t.f10.length 0 0 (by omega) (by omega) (by omega)) ?_
  rw [List.drop_zero, Int.zero_add]
theorem gap_ev (l : List S86) (hl : l.length ≤ 100) (hb : InL l) (m : Nat) : ∀ (i : Nat) (x : Int), i + m = l.length → -1000000000 + 40000 * (m : Int) ≤ x → x ≤ 1000000000 → Ev (fun k => impl_GapOf.l10 k x l (l.length : Int) (i : Int)) (x - sumL (l.drop i)) := by
  induction m with
  | zero =>
    intro i x hi _ _
    refine Ev.step ?_
    rw [List.drop_of_length_le (by omega)]
    simp only [lenZ_eq, impl_GapOf.l10, sumL, Int.sub_zero]
    exact Ev.ite_neg (by omega) (Ev.ret _)
  | succ m ih =>
    intro i x hi h0 h1
    have hlt : i < l.length := by omega
    have hs := hb _ (getD_mem (z := z86) hlt)
    refine Ev.step ?_
    rw [Ev.drop_getD l z86 i hlt]
    simp only [lenZ_eq, impl_GapOf.l10, rd_T86, Int.toNat_natCast, wrap_succ hlt (by omega), sumL]
    rw [wrap_of (a := x - (l.getD i z86).f2) (by omega) (by omega)]
    exact Ev.ite_pos (lt_in hlt) (Ev.ite_pos ge_0 (Ev.ite_pos (lt_in hlt) (Ev.cast (ih (i + 1) _ (by omega) (by omega) (by omega)) (by omega))))
theorem gapOf_ev {t : S50} (h : Small t) (hnm : ∀ p ∈ t.f7, p.f0.size ≤ 9223372036854775807) (hs : soundB t = true) : Ev (fun k => impl_GapOf.f k t) (t.f6 - sumL t.f10) := by
  obtain ⟨hp, hb⟩ := sound_in hs
  have hl := sound_len hs
  have hm := hp.major
  unfold impl_GapOf.f
  try simp only [lenZ_eq]
  refine Ev.bind (implSound t h hnm) (Ev.ite_pos hs ?_)
  exact gap_ev t.f10 (by omega) hb t.f10.length 0 t.f6 (by omega) (by omega) (by omega)

/-! ### Slots that are cut -/
theorem split_sum {f : Int} : ∀ (l : List S86) (i : Nat), i < l.length → (∀ s, l[i]? = some s → wrap64 (s.f2 - f) = s.f2 - f) → sumL (splitAt l i f) = sumL l
  | [], i, h, _ => by simp at h
  | s :: l, 0, _, hw => by
    have := hw s rfl
    show f + (wrap64 (s.f2 - f) + sumL l) = s.f2 + sumL l
    rw [this]; omega
  | s :: l, i + 1, h, hw => by
    have e : splitAt (s :: l) (i + 1) f = s :: splitAt l i f := by
      have hs : (s :: l).getD (i + 1) z86 = l.getD i z86 := by simp [List.getD_eq_getElem?_getD]
      simp only [splitAt, hs, List.take_succ_cons, List.cons_append, List.drop_succ_cons]
    rw [e]
    simp only [sumL]
    rw [split_sum l i (by simpa using h) (fun x hx => hw x (by simpa using hx))]
theorem split_share {d p f : Int} : ∀ (l : List S86) (i : Nat), i < l.length → (∀ s, l[i]? = some s → wrap64 (s.f2 - f) = s.f2 - f) → shareL d p (splitAt l i f) = shareL d p l - (if (l.getD i z86).f0 = p then d else 0)
  | [], i, h, _ => by simp at h
  | s :: l, 0, _, hw => by
    have := hw s rfl
    show (if s.f0 = p then f - d else 0) + ((if s.f0 = p then wrap64 (s.f2 - f) - d else 0) + shareL d p l) = (if s.f0 = p then s.f2 - d else 0) + shareL d p l - (if s.f0 = p then d else 0)
    rw [this]
    split <;> omega
  | s :: l, i + 1, h, hw => by
    have hs : (s :: l).getD (i + 1) z86 = l.getD i z86 := by simp [List.getD_eq_getElem?_getD]
    have e : splitAt (s :: l) (i + 1) f = s :: splitAt l i f := by
      simp only [splitAt, hs, List.take_succ_cons, List.cons_append, List.drop_succ_cons]
    rw [e, hs]
    simp only [shareL]
    rw [split_share l i (by simpa using h) (fun x hx => hw x (by simpa using hx))]
    omega
/-- What a cut that goes through says. -/
theorem splitL_true {t : S50} {l : List S86} {i f : Int} (hs : soundB (setSl t l) = true) (h : (splitL t l i f).2 = true) :
    ∃ n : Nat, i = n ∧ n < l.length ∧ l.length < 16 ∧ (splitL t l i f).1 = splitAt l n f ∧ ∃ s, l[n]? = some s ∧ l.getD n z86 = s ∧ t.f4 + t.f5 + 1 ≤ f ∧ f ≤ s.f2 - (t.f4 + t.f5 + 1) ∧ 0 ≤ s.f1 ∧ s.f1 ≤ 5000 ∧ 0 ≤ s.f2 ∧ s.f2 ≤ 5000 := by
  obtain ⟨hp, hb⟩ := sound_in hs
  have hl := sound_len hs
  have hp4 := hp.pad; have hp5 := hp.guard
  change (1 ≤ t.f4 ∧ t.f4 ≤ 5000) at hp4
  change (1 ≤ t.f5 ∧ t.f5 ≤ 5000) at hp5
  change (1 ≤ l.length ∧ l.length ≤ 16) at hl
  change InL l at hb
  unfold splitL at h ⊢
  split at h
  case isFalse => cases h
  rename_i c1
  split at h
  · cases h
  rename_i c2
  split at h
  case isFalse => cases h
  rename_i c3
  have c1' := in_iff.1 c1
  obtain ⟨n, rfl⟩ : ∃ n : Nat, i = n := ⟨i.toNat, by omega⟩
  have hn : n < l.length := by omega
  have hgd : l.getD n z86 = l[n] := by rw [List.getD_eq_getElem?_getD, List.getElem?_eq_getElem hn]; rfl
  have hbs := hb l[n] (List.getElem_mem hn)
  refine ⟨n, rfl, hn, by omega, by rw [if_pos c1, if_neg c2, if_pos c3]; rfl, l[n], List.getElem?_eq_getElem hn, hgd, ?_⟩
  have e1 : leastV t = t.f4 + t.f5 + 1 := by unfold leastV; rw [wrap_of (a := t.f4 + t.f5) (by omega) (by omega), wrap_of (by omega) (by omega)]
  rw [Int.toNat_natCast, hgd, e1, wrap_of (by omega) (by omega), in_iff] at c3
  omega

/-! ### Tables compared with themselves -/
theorem sameInts_ev (l : List Int) (hl : l.length ≤ 1048576) : Ev (fun k => laws_sameInts.f k l l) true := by
  have key : ∀ (m i : Nat), i + m = l.length → Ev (fun k => laws_sameInts.l8 k l l (i : Int)) true := by
    intro m
    induction m with
    | zero =>
      intro i hi
      refine Ev.step ?_
      simp only [lenZ_eq, laws_sameInts.l8]
      exact Ev.ite_neg (by omega) (Ev.ret _)
    | succ m ih =>
      intro i hi
      have hlt : i < l.length := by omega
      refine Ev.step ?_
      simp only [lenZ_eq, laws_sameInts.l8, wrap_succ hlt (by omega)]
      exact Ev.ite_pos (lt_in hlt) (Ev.ite_pos ge_0 (Ev.ite_pos (lt_in hlt) (Ev.ite_pos ge_0 (Ev.ite_pos (lt_in hlt) (Ev.ite_pos (by trivial) (ih (i + 1) (by omega)))))))
  unfold laws_sameInts.f
  try simp only [lenZ_eq]
  exact Ev.ite_pos (by trivial) (key l.length 0 (by omega))
theorem same_l44 (t : S50) (hl : t.f10.length ≤ 1048576) : ∀ (m i : Nat), i + m = t.f10.length → Ev (fun k => laws_sameTables.l44 k (i : Int) t t) true := by
  intro m
  induction m with
  | zero =>
    intro i hi
    refine Ev.step ?_
    simp only [lenZ_eq, laws_sameTables.l44]
    exact Ev.ite_neg (by omega) (Ev.ret _)
  | succ m ih =>
    intro i hi
    have hlt : i < t.f10.length := by omega
    refine Ev.step ?_
    simp only [lenZ_eq, laws_sameTables.l44, wrap_succ hlt (by omega)]
    exact Ev.ite_pos (lt_in hlt) (Ev.ite_pos ge_0 (Ev.ite_pos (lt_in hlt) (Ev.ite_pos ge_0 (Ev.ite_pos (lt_in hlt) (Ev.ite_pos (by trivial) (ih (i + 1) (by omega)))))))
theorem same_l34 (t : S50) (h : Small t) : ∀ (m i : Nat), i + m = t.f9.length → Ev (fun k => laws_sameTables.l34 k (i : Int) t t) true := by
  have hl := h.chans
  intro m
  induction m with
  | zero =>
    intro i hi
    refine Ev.step ?_
    simp only [lenZ_eq, laws_sameTables.l34]
    exact Ev.ite_neg (by omega) (same_l44 t h.slots t.f10.length 0 (by omega))
  | succ m ih =>
    intro i hi
    have hlt : i < t.f9.length := by omega
    refine Ev.step ?_
    simp only [lenZ_eq, laws_sameTables.l34, wrap_succ hlt (by omega)]
    exact Ev.ite_pos (lt_in hlt) (Ev.ite_pos ge_0 (Ev.ite_pos (lt_in hlt) (Ev.ite_pos ge_0 (Ev.ite_pos (lt_in hlt) (Ev.ite_pos (by trivial) (ih (i + 1) (by omega)))))))
theorem same_l24 (t : S50) (i : Nat) (p : S75) (hl : p.f3.length ≤ 1048576) (hi : wrap64 ((i : Int) + 1) = ((i + 1 : Nat) : Int)) (hnext : Ev (fun k => laws_sameTables.l12 k ((i + 1 : Nat) : Int) t t) true) : ∀ (m j : Nat), j + m = p.f3.length → Ev (fun k => laws_sameTables.l24 k (i : Int) (j : Int) t t p p) true := by
  intro m
  induction m with
  | zero =>
    intro j hj
    refine Ev.step ?_
    simp only [lenZ_eq, laws_sameTables.l24, hi]
    exact Ev.ite_neg (by omega) hnext
  | succ m ih =>
    intro j hj
    have hlt : j < p.f3.length := by omega
    refine Ev.step ?_
    simp only [lenZ_eq, laws_sameTables.l24, wrap_succ hlt (by omega)]
    exact Ev.ite_pos (lt_in hlt) (Ev.ite_pos ge_0 (Ev.ite_pos (lt_in hlt) (Ev.ite_pos ge_0 (Ev.ite_pos (lt_in hlt) (Ev.ite_pos (by trivial) (ih (j + 1) (by omega)))))))
theorem same_l12 (t : S50) (h : Small t) : ∀ (m i : Nat), i + m = t.f7.length → Ev (fun k => laws_sameTables.l12 k (i : Int) t t) true := by
  have hl := h.parts
  intro m
  induction m with
  | zero =>
    intro i hi
    refine Ev.step ?_
    simp only [lenZ_eq, laws_sameTables.l12]
    exact Ev.ite_neg (by omega) (same_l34 t h t.f9.length 0 (by omega))
  | succ m ih =>
    intro i hi
    have hlt : i < t.f7.length := by omega
    have hw := h.windows _ (getD_mem (z := z75) hlt)
    refine Ev.step ?_
    simp only [lenZ_eq, laws_sameTables.l12, same_self, rd_T75, Int.toNat_natCast]
    refine Ev.ite_pos (lt_in hlt) (Ev.ite_pos ge_0 (Ev.ite_pos (lt_in hlt) (Ev.ite_pos ge_0 (Ev.ite_pos (lt_in hlt) (Ev.step ?_)))))
    simp only [lenZ_eq, laws_sameTables.l19]
    exact Ev.ite_pos (by trivial) (Ev.ite_pos (by trivial) (Ev.ite_pos (by trivial) (Ev.ite_pos (by trivial) (same_l24 t i _ hw (wrap_succ hlt (by omega)) (ih (i + 1) (by omega)) _ 0 (Nat.zero_add _)))))
theorem same_ev (t : S50) (h : Small t) : Ev (fun k => laws_sameTables.f k t t) true := by
  unfold laws_sameTables.f
  try simp only [lenZ_eq]
  exact Ev.ite_pos (by trivial) (Ev.ite_pos (by trivial) (Ev.ite_pos (by trivial) (Ev.ite_pos (by trivial) (Ev.ite_pos (by trivial) (Ev.ite_pos (by trivial) (Ev.ite_pos (by trivial) (Ev.ite_pos (by trivial) (Ev.bind (sameInts_ev t.f8 h.devs) (Ev.ite_pos (by trivial) (Ev.ite_pos (by trivial) (Ev.ite_pos (by trivial) (same_l12 t h t.f7.length 0 (by omega)))))))))))))
end Go.Proofs.Ytgnhojiogkeepaa.PSp
