/- Plain Lean over the printed functions: spans of cycles are right, and whoever is not is told. -/
import Derived.Test.YtfmbebgpbgcpeaaD4
import Derived.Test.YtfmbebgpbgcpeaaC14
set_option linter.unusedVariables false
set_option linter.unusedSimpArgs false
set_option linter.unusedSectionVars false
namespace Go.Proofs.Ytfmbebgpbgcpeaa.PDr
open Go Go.RowKit Go.Proofs.Ytfmbebgpbgcpeaa.V Go.Proofs.Ytfmbebgpbgcpeaa.C

/-- One of d cycles from c on is not as the span says. -/
def badN (t : S33) (s : S73) : Int → Nat → Bool
  | _, 0 => false
  | c, d + 1 => if (whoV t (c.tmod t.f6)).1 = s.f3 ∧ (whoV t (c.tmod t.f6)).2 = s.f2 then badN t s (c + 1) d else true
def wrongB (t : S33) (s : S73) : Bool :=
  if inB s.f0 0 50000 = true then if inB s.f1 0 50000 = true then if s.f0 ≥ s.f1 then true else badN t s s.f0 (s.f1 - s.f0).toNat else true else true
section
variable (t : S33) (hS : t.f10.length ≤ 1048576) (hm : ¬ t.f6 = 0)
include hS hm
theorem wrong_loop (s : S73) (hs : s.f1 ≤ 50000) : ∀ (d : Nat) (c : Int), 0 ≤ c → c + d = s.f1 → Ev (fun k => impl_isWrong.l8 k c t s) (badN t s c d)
  | 0, c, h0, h1 => Ev.step (by simp only [impl_isWrong.l8]; exact Ev.ite_neg (by omega) (Ev.ret _))
  | d + 1, c, h0, h1 => Ev.step (by
    have hn : wrap64 (c + 1) = c + 1 := wrap_of (by omega) (by omega)
    simp only [impl_isWrong.l8, hn]
    refine Ev.ite_pos (by omega) (Ev.bind (implPhase t hS hm c) ?_)
    have ih := wrong_loop s hs d (c + 1) (by omega) (by omega)
    by_cases e1 : (whoV t (c.tmod t.f6)).1 = s.f3
    · refine Ev.ite_pos e1 ?_
      by_cases e2 : (whoV t (c.tmod t.f6)).2 = s.f2
      · exact Ev.ite_pos e2 (Ev.cast ih (by rw [badN, if_pos ⟨e1, e2⟩]))
      · exact Ev.ite_neg e2 (Ev.cast (Ev.ret _) (by rw [badN, if_neg fun h => e2 h.2]))
    · exact Ev.ite_neg e1 (Ev.cast (Ev.ret _) (by rw [badN, if_neg fun h => e1 h.1])))
theorem implWrong (s : S73) : Ev (fun k => impl_isWrong.f k t s) (wrongB t s) := by
  unfold impl_isWrong.f wrongB impl_isCycle.f
  simp only [within_some, Option.bind_some]
  by_cases c1 : inB s.f0 0 50000 = true
  · refine Ev.ite_pos c1 ?_
    rw [if_pos c1]
    by_cases c2 : inB s.f1 0 50000 = true
    · refine Ev.ite_pos c2 ?_
      rw [if_pos c2]
      rw [in_iff] at c1 c2
      by_cases c3 : s.f0 ≥ s.f1
      · exact Ev.ite_pos c3 (Ev.cast (Ev.ret _) (by rw [if_pos c3]))
      · refine Ev.ite_neg c3 ?_
        rw [if_neg c3]
        exact wrong_loop t hS hm s c2.2 _ _ c1.1 (by omega)
    · exact Ev.ite_neg c2 (Ev.cast (Ev.ret _) (by rw [if_neg c2]))
  · exact Ev.ite_neg c1 (Ev.cast (Ev.ret _) (by rw [if_neg c1]))
theorem implBlames (l : List S73) (hl : l.length ≤ 5000) : Ev (fun k => slices_IndexFunc_90_91.f k l t) (idxOf (wrongB t) l 0) := by
  unfold slices_IndexFunc_90_91.f
  have h1 : ∀ s, Ev (fun k => impl_Blame_1.f k s t) (wrongB t s) := fun s => by
    unfold impl_Blame_1.f
    exact Ev.bind (implWrong t hS hm s) (Ev.ret _)
  refine Ev.idx l z73 _ (fun k i => slices_IndexFunc_90_91.l4 k l t (l.length : Int) i) (Ev.step ?_) (fun i hi hp => Ev.step ?_) (fun i hi hp v hv => Ev.step ?_)
  · simp only [slices_IndexFunc_90_91.l4]; exact Ev.ite_neg (by omega) (Ev.ret _)
  all_goals
    have hr : rd_T73 l (i : Int) = l.getD i z73 := rfl
    simp only [slices_IndexFunc_90_91.l4, hr, wrap_succ hi (by omega)]
    refine Ev.ite_pos (lt_in hi) (Ev.ite_pos ge_0 (Ev.ite_pos (lt_in hi) (Ev.bind (h1 _) ?_)))
    rw [hp]
  · exact Ev.ite_pos rfl (Ev.ret _)
  · exact Ev.ite_neg (by simp) hv
end

/-! ### Spans, one behind the other -/
/-- A span says what is so. -/
def RightS (t : S33) (s : S73) : Prop := s.f0 < s.f1 ∧ ∀ x, s.f0 ≤ x → x < s.f1 → whoV t (x.tmod t.f6) = (s.f3, s.f2)
def ChainS (t : S33) : List S73 → Int → Int → Prop
  | [], a, c => a = c
  | s :: l, a, c => s.f0 = a ∧ RightS t s ∧ ChainS t l s.f1 c
theorem ChainS.snoc {t : S33} {s : S73} (h : RightS t s) : ∀ {l : List S73} {a : Int}, ChainS t l a s.f0 → ChainS t (l ++ [s]) a s.f1
  | [], a, hl => ⟨hl.symm, h, rfl⟩
  | x :: l, a, hl => ⟨hl.1, hl.2.1, ChainS.snoc h hl.2.2⟩
theorem ChainS.last {t : S33} {s : S73} : ∀ {l : List S73} {a c : Int}, ChainS t (l ++ [s]) a c → ChainS t l a s.f0 ∧ RightS t s ∧ s.f1 = c
  | [], a, c, h => ⟨h.1.symm, h.2.1, h.2.2⟩
  | x :: l, a, c, h => by
    obtain ⟨h1, h2, h3⟩ := ChainS.last (l := l) h.2.2
    exact ⟨⟨h.1, h.2.1, h1⟩, h2, h3⟩
theorem step_chain {t : S33} {l : List S73} {a c : Int} (hc : 0 ≤ c) (h : ChainS t l a c) : ChainS t (spanStep t c l) a (c + 1) := by
  have one : RightS t ((c, c + 1, (whoV t (c.tmod t.f6)).2, (whoV t (c.tmod t.f6)).1) : S73) := by
    refine ⟨show c < c + 1 by omega, fun x h1 h2 => ?_⟩
    have h1 : c ≤ x := h1
    have h2 : x < c + 1 := h2
    obtain rfl : x = c := by omega
    rfl
  unfold spanStep
  split
  · rename_i hg
    obtain ⟨hne, _, hph, hsl⟩ := hg
    obtain ⟨l', s, rfl⟩ : ∃ l' s, l = l' ++ [s] := ⟨l.dropLast, l.getLast hne, (List.dropLast_concat_getLast hne).symm⟩
    obtain ⟨h1, ⟨h2, h2'⟩, h3⟩ := ChainS.last h
    have hl : lastS (l' ++ [s]) = s := by
      unfold lastS
      rw [List.getD_eq_getElem?_getD]
      simp
    rw [hl] at hph ⊢
    have hset : (l' ++ [s]).set ((l' ++ [s]).length - 1) ((s.f0, c + 1, s.f2, s.f3) : S73) = l' ++ [((s.f0, c + 1, s.f2, s.f3) : S73)] := by
      rw [List.length_append, List.length_singleton, Nat.add_sub_cancel, List.set_append_right _ _ (Nat.le_refl _), Nat.sub_self]
      rfl
    rw [hset]
    refine ChainS.snoc (s := ((s.f0, c + 1, s.f2, s.f3) : S73)) ⟨show s.f0 < c + 1 by omega, fun x k1 k2 => ?_⟩ h1
    have k1 : s.f0 ≤ x := k1
    have k2 : x < c + 1 := k2
    by_cases e : x < s.f1
    · exact h2' x k1 e
    · obtain rfl : x = c := by omega
      have hprev := h2' (x - 1) (by omega) (by omega)
      refine Prod.ext hph.symm ?_
      show (whoV t (x.tmod t.f6)).2 = s.f2
      have e2 : (whoV t ((x - 1).tmod t.f6)).2 = s.f2 := by rw [hprev]
      rw [← e2]
      unfold whoV
      rw [hsl]
      split <;> rfl
  · exact ChainS.snoc one h
theorem spansN_chain {t : S33} {a : Int} : ∀ (n : Nat) (c : Int) (l : List S73), 0 ≤ c → ChainS t l a c → ChainS t (spansN t n c l) a (c + n)
  | 0, c, l, _, h => by rw [show c + ((0 : Nat) : Int) = c by omega]; exact h
  | n + 1, c, l, h0, h => by
    have := spansN_chain n (c + 1) _ (by omega) (step_chain h0 h)
    rw [show c + 1 + (n : Int) = c + ((n + 1 : Nat) : Int) by omega] at this
    exact this
/-- Spans that are there are right. -/
theorem spans_chain {t : S33} {a b : Int} (h : spansV t a b ≠ []) : soundB t = true ∧ 0 ≤ a ∧ a < b ∧ b ≤ 50000 ∧ b - a ≤ 5000 ∧ ChainS t (spansV t a b) a b := by
  unfold spansV at h ⊢
  by_cases c0 : soundB t = true
  · rw [if_pos c0] at h ⊢
    by_cases c1 : inB a 0 50000 = true
    · rw [if_pos c1] at h ⊢
      by_cases c2 : inB b 0 50000 = true
      · rw [if_pos c2] at h ⊢
        by_cases c3 : inB (b - a) 1 5000 = true
        · rw [if_pos c3] at h ⊢
          rw [in_iff] at c1 c2 c3
          have := spansN_chain (t := t) (a := a) (b - a).toNat a [] c1.1 rfl
          rw [show a + ((b - a).toNat : Int) = b by omega] at this
          exact ⟨c0, c1.1, by omega, c2.2, c3.2, this⟩
        · rw [if_neg c3] at h; exact absurd rfl h
      · rw [if_neg c2] at h; exact absurd rfl h
    · rw [if_neg c1] at h; exact absurd rfl h
  · rw [if_neg c0] at h; exact absurd rfl h
theorem ChainS.le {t : S33} : ∀ {l : List S73} {a c : Int}, ChainS t l a c → a ≤ c
  | [], a, c, h => by have : a = c := h; omega
  | s :: l, a, c, h => by have := ChainS.le h.2.2; have := h.1; have := h.2.1.1; omega
theorem ChainS.mem {t : S33} : ∀ {l : List S73} {a c : Int}, ChainS t l a c → ∀ s ∈ l, RightS t s ∧ a ≤ s.f0 ∧ s.f1 ≤ c
  | x :: l, a, c, h, s, hs => by
    have h1 := ChainS.le h.2.2
    have h2 := h.1
    have h3 := h.2.1.1
    rcases List.mem_cons.1 hs with rfl | hs
    · exact ⟨h.2.1, by omega, h1⟩
    · obtain ⟨k1, k2, k3⟩ := ChainS.mem h.2.2 s hs
      exact ⟨k1, by omega, k3⟩

theorem bad_right {t : S33} {s : S73} (h : RightS t s) : ∀ (d : Nat) (c : Int), s.f0 ≤ c → c + d ≤ s.f1 → badN t s c d = false
  | 0, _, _, _ => rfl
  | d + 1, c, h0, h1 => by
    have := h.2 c h0 (by omega)
    rw [badN, this, if_pos ⟨rfl, rfl⟩]
    exact bad_right h d (c + 1) (by omega) (by omega)
theorem right_not {t : S33} {s : S73} (h : RightS t s) (h0 : 0 ≤ s.f0) (h1 : s.f1 ≤ 50000) : wrongB t s = false := by
  have h2 := h.1
  unfold wrongB
  rw [if_pos (in_iff.2 ⟨h0, by omega⟩), if_pos (in_iff.2 ⟨by omega, h1⟩), if_neg (by omega)]
  exact bad_right h _ _ (Int.le_refl _) (by omega)
theorem other_wrong {t : S33} {s s' : S73} (h : RightS t s) (h0 : 0 ≤ s.f0) (h1 : s.f1 ≤ 50000) (e0 : s'.f0 = s.f0) (e1 : s'.f1 = s.f1) (hne : ¬ (s.f3 = s'.f3 ∧ s.f2 = s'.f2)) : wrongB t s' = true := by
  have h2 := h.1
  unfold wrongB
  rw [e0, e1, if_pos (in_iff.2 ⟨h0, by omega⟩), if_pos (in_iff.2 ⟨by omega, h1⟩), if_neg (by omega)]
  obtain ⟨d, hd⟩ : ∃ d, (s.f1 - s.f0).toNat = d + 1 := ⟨(s.f1 - s.f0).toNat - 1, by omega⟩
  rw [hd, badN, h.2 s.f0 (Int.le_refl _) h2, if_neg hne]
theorem blame_ev {t : S33} (hs : Small t) (hnm : ∀ x ∈ t.f7, x.f0.size ≤ 9223372036854775807) (hb : soundB t = true) (l : List S73) (hl : l.length ≤ 5000) : Ev (fun k => impl_Blame.f k t l) (idxOf (wrongB t) l 0) := by
  obtain ⟨h1, h2, h3, h4⟩ := sound_spans hb
  have hm := h1.major
  unfold impl_Blame.f
  exact Ev.bind (Ev.cast (implSound t hs hnm) hb) (Ev.ite_pos rfl (Ev.ite_neg (by omega) (Ev.bind (implBlames t (by omega) (by omega) l (by omega)) (Ev.ret _))))
theorem blame_no {t : S33} (hs : Small t) (hnm : ∀ x ∈ t.f7, x.f0.size ≤ 9223372036854775807) : Ev (fun k => impl_Blame.f k t []) (-1) := by
  cases hb : soundB t with
  | false =>
    unfold impl_Blame.f
    exact Ev.bind (Ev.cast (implSound t hs hnm) hb) (Ev.ite_neg (by simp) (Ev.ret _))
  | true => exact blame_ev hs hnm hb [] (by simp)

theorem drawSpans_out (code : List Int) (h : code.length ≤ 1048576) : Out (fun z => Any z.1) (fun k => spec_DrawSpans.f k code) := by
  unfold spec_DrawSpans.f spec_l24Span.f
  refine Out.bind (Q := fun z => Any z.1) ?_ fun z hz => Out.ret hz
  refine Out.bind (new_out code (by omega)) fun y hy => Out.bind (any_out hy) fun u hu => Out.bind (below_out hu.2 (n := 900) (by omega)) fun z3 h3 => Out.bind (below_out h3.2 (n := 600) (by omega)) fun z4 h4 => Out.bind (below_out h4.2 (n := 12) (by omega)) fun z5 h5 => ?_
  refine Out.ite (fun _ => Out.bind (pick_out h5.2 (by simp)) fun z6 h6 => Out.ret hu.1) fun _ => Out.ite (fun _ => Out.bind (pick_out h5.2 (by simp)) fun z7 h7 => Out.ret hu.1) fun _ => Out.ret hu.1
end Go.Proofs.Ytfmbebgpbgcpeaa.PDr
