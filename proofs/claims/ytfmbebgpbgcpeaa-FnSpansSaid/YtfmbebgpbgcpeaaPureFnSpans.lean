/- Plain Lean over the printed functions: spans follow one another, each is as it says, and those of a partition that runs are as long as the cycles at which it may begin, so the law's function answers true. -/
import Derived.Test.YtfmbebgpbgcpeaaD5
set_option linter.unusedVariables false
set_option linter.unusedSimpArgs false
set_option linter.unusedSectionVars false
namespace Go.Proofs.Ytfmbebgpbgcpeaa.PDr
open Go Go.RowKit Go.Proofs.Ytfmbebgpbgcpeaa.V Go.Proofs.Ytfmbebgpbgcpeaa.C

theorem idx_none' {α : Type} (p : α → Bool) : ∀ (l : List α) (k : Int), (∀ y ∈ l, p y = false) → idxOf p l k = -1
  | [], _, _ => rfl
  | y :: l, k, h => by
    rw [idxOf, if_neg (by rw [h y (by simp)]; simp), idx_none' p l (k + 1) (fun z hz => h z (by simp [hz]))]

/-! ### How long a partition runs -/
def runL (p : Int) : List S73 → Int → Int
  | [], x => x
  | s :: l, x => runL p l (if s.f2 = p ∧ s.f3 = 2 then x + (s.f1 - s.f0) else x)
section
variable {t : S33} (hS : t.f10.length ≤ 1048576) (hm : ¬ t.f6 = 0) {p : Int} (hp : 0 ≤ p)
include hS hm hp
theorem sum_l (L : List S73) (hL : L.length ≤ 5000) : ∀ (n i : Nat) (a c x : Int), i + n = L.length → ChainS t (L.drop i) a c → 0 ≤ a → c ≤ 50000 → 0 ≤ x → x ≤ a → Ev (fun k => impl_SpanSum.l10 k p 2 x L (L.length : Int) (i : Int)) (runL p (L.drop i) x)
  | 0, i, a, c, x, hi, hc, h0, h1, hx, hxa => by
    rw [List.drop_eq_nil_of_le (by omega)]
    refine Ev.step ?_
    simp only [impl_SpanSum.l10]
    exact Ev.ite_neg (by omega) (Ev.ret _)
  | n + 1, i, a, c, x, hi, hc, h0, h1, hx, hxa => by
    have hlt : i < L.length := by omega
    have hr0 : rd_T73 L (i : Int) = L.getD i z73 := rfl
    rw [Ev.drop_getD L z73 i hlt] at hc ⊢
    have ih := fun a x => sum_l L hL n (i + 1) a c x (by omega)
    refine Ev.step ?_
    simp only [impl_SpanSum.l10, hr0, wrap_succ hlt (by omega), runL, impl_isCycle.f, within_some, Option.bind_some]
    generalize L.getD i z73 = s at *
    obtain ⟨g1, g2, g3⟩ := hc
    have g4 := g2.1
    have g5 := ChainS.le g3
    refine Ev.ite_pos (lt_in hlt) (Ev.ite_pos ge_0 (Ev.ite_pos (lt_in hlt) ?_))
    by_cases c1 : s.f2 = p
    · refine Ev.ite_pos c1 ?_
      by_cases c2 : s.f3 = 2
      · rw [wrap_of (a := s.f1 - s.f0) (by omega) (by omega), wrap_of (a := x + (s.f1 - s.f0)) (by omega) (by omega), if_pos ⟨c1, c2⟩]
        exact Ev.ite_pos c2 (Ev.ite_pos (in_iff.2 ⟨by omega, by omega⟩) (Ev.ite_pos (in_iff.2 ⟨by omega, by omega⟩) (ih s.f1 _ g3 (by omega) h1 (by omega) (by omega))))
      · rw [if_neg fun h => c2 h.2]
        exact Ev.ite_neg c2 (ih s.f1 _ g3 (by omega) h1 hx (by omega))
    · rw [if_neg fun h => c1 h.1]
      exact Ev.ite_neg c1 (ih s.f1 _ g3 (by omega) h1 hx (by omega))
theorem may_l (c : Int) : Ev (fun k => impl_mayBegin.f k t c) (if (whoV t (c.tmod t.f6)).1 = 2 then (whoV t (c.tmod t.f6)).2 else -1) := by
  unfold impl_mayBegin.f
  refine Ev.bind (implPhase t hS hm c) ?_
  generalize whoV t (c.tmod t.f6) = w
  by_cases h : w.1 = 2
  · exact Ev.ite_pos h (Ev.cast (Ev.ret _) (if_pos h).symm)
  · exact Ev.ite_neg h (Ev.cast (Ev.ret _) (if_neg h).symm)
/-- The cycles of one span. -/
theorem cyc_in {s : S73} (hs : RightS t s) (to : Int) (hto : s.f1 ≤ to ∧ to ≤ 50000) (v : Int) : ∀ (d : Nat) (c x : Int), 0 ≤ c → s.f0 ≤ c → c + d = s.f1 → 0 ≤ x → x ≤ c →
    Ev (fun k => impl_CyclesOf.l10 k p to (if s.f2 = p ∧ s.f3 = 2 then x + d else x) s.f1 t) v → Ev (fun k => impl_CyclesOf.l10 k p to x c t) v
  | 0, c, x, h0, h1, h2, hx, hxc, hv => by
    obtain rfl : c = s.f1 := by omega
    simpa using hv
  | d + 1, c, x, h0, h1, h2, hx, hxc, hv => by
    have hw := hs.2 c h1 (by omega)
    have hmay := may_l hS hm hp c
    rw [hw] at hmay
    refine Ev.step ?_
    simp only [impl_CyclesOf.l10]
    rw [wrap_of (a := c + 1) (by omega) (by omega), wrap_of (a := x + 1) (by omega) (by omega)]
    refine Ev.ite_pos (by omega) (Ev.ite_pos hp (Ev.bind hmay ?_))
    by_cases hq : s.f2 = p ∧ s.f3 = 2
    · rw [if_pos hq] at hv
      refine Ev.ite_pos (by rw [if_pos hq.2]; exact hq.1) (cyc_in hs to hto v d (c + 1) (x + 1) (by omega) (by omega) (by omega) (by omega) (by omega) ?_)
      rw [if_pos hq, show x + 1 + (d : Int) = x + ((d + 1 : Nat) : Int) by omega]
      exact hv
    · rw [if_neg hq] at hv
      refine Ev.ite_neg ?_ (cyc_in hs to hto v d (c + 1) x (by omega) (by omega) (by omega) (by omega) (by omega) ?_)
      · show ¬ (if s.f3 = 2 then s.f2 else -1) = p
        by_cases h3 : s.f3 = 2
        · rw [if_pos h3]; exact fun h => hq ⟨h, h3⟩
        · rw [if_neg h3]; omega
      · rw [if_neg hq]; exact hv
theorem cyc_l (to : Int) (hto : to ≤ 50000) : ∀ (l : List S73) (a x : Int), ChainS t l a to → 0 ≤ a → 0 ≤ x → x ≤ a → Ev (fun k => impl_CyclesOf.l10 k p to x a t) (runL p l x)
  | [], a, x, hc, h0, hx, hxa => by
    have hc : a = to := hc
    refine Ev.step ?_
    simp only [impl_CyclesOf.l10]
    exact Ev.ite_neg (by omega) (Ev.ret _)
  | s :: l, a, x, hc, h0, hx, hxa => by
    obtain ⟨g1, g2, g3⟩ := hc
    have g4 := g2.1
    have g5 := ChainS.le g3
    refine cyc_in hS hm hp g2 to ⟨g5, hto⟩ _ (s.f1 - s.f0).toNat a x h0 (by omega) (by omega) hx hxa ?_
    rw [show x + ((s.f1 - s.f0).toNat : Int) = x + (s.f1 - s.f0) by omega, runL]
    exact cyc_l to hto l s.f1 _ g3 (by omega) (by split <;> omega) (by split <;> omega)
end

section
variable {t : S33} {a b : Int} {L : List S73} (hany : Any t) (hb : soundB t = true) (ha : 0 ≤ a) (hb5 : b ≤ 50000) (hL : L.length ≤ 5000) (hch : ChainS t L a b)
include hany hb ha hb5 hL hch
theorem l36_ev : ∀ (n p : Nat), p + n = t.f7.length → Ev (fun k => laws_FnSpans.l36 k a b (p : Int) t L) true
  | 0, p, hp => by
    refine Ev.step ?_
    simp only [laws_FnSpans.l36]
    exact Ev.ite_neg (by omega) (Ev.ret _)
  | n + 1, p, hp => by
    obtain ⟨h1, h2, h3, h4⟩ := sound_spans hb
    have hm := h1.major
    have hpl := hany.parts
    have hle := ChainS.le hch
    refine Ev.step ?_
    simp only [laws_FnSpans.l36]
    refine Ev.ite_pos (by omega) (Ev.bind (a := runL (p : Int) L 0) ?_ (Ev.bind (a := runL (p : Int) L 0) ?_ (Ev.ite_pos rfl ?_)))
    · unfold impl_SpanSum.f
      refine Ev.ite_neg (by omega) ?_
      have := sum_l (t := t) (by omega) (by omega) (p := (p : Int)) (by omega) L hL L.length 0 a b 0 (by omega) (by simpa using hch) ha hb5 (by omega) ha
      simpa using this
    · unfold impl_CyclesOf.f impl_isCycle.f
      simp only [within_some, Option.bind_some, (in_iff (a := a)).2 (show 0 ≤ a ∧ a ≤ 50000 by omega), (in_iff (a := b)).2 (show 0 ≤ b ∧ b ≤ 50000 by omega), if_true]
      exact Ev.bind (Ev.cast (implSound t hany.small hany.names) hb) (Ev.ite_pos rfl (cyc_l (by omega) (by omega) (by omega) b hb5 L a 0 hch ha (by omega) ha))
    · rw [wrap_of (a := (p : Int) + 1) (by omega) (by omega)]
      exact l36_ev n (p + 1) (by omega)
theorem l26_ev : ∀ (n i : Nat) (c : Int), i + 1 + n = L.length → ChainS t (L.drop i) c b → Ev (fun k => laws_FnSpans.l26 k a b ((i + 1 : Nat) : Int) t L) true
  | 0, i, c, hi, _ => by
    refine Ev.step ?_
    simp only [laws_FnSpans.l26]
    exact Ev.ite_neg (by omega) (l36_ev hany hb ha hb5 hL hch t.f7.length 0 (by omega))
  | n + 1, i, c, hi, hc => by
    have hlt : i + 1 < L.length := by omega
    have e1 : rd_T73 L ((i + 1 : Nat) : Int) = L.getD (i + 1) z73 := rfl
    have e2 : rd_T73 L (((i + 1 : Nat) : Int) - 1) = L.getD i z73 := by
      show L.getD (((i + 1 : Nat) : Int) - 1).toNat _ = _
      rw [show (((i + 1 : Nat) : Int) - 1).toNat = i by omega]
    rw [Ev.drop_getD L z73 i (by omega)] at hc
    obtain ⟨g1, g2, g3⟩ := hc
    have g3' := g3
    rw [Ev.drop_getD L z73 (i + 1) hlt] at g3'
    refine Ev.step ?_
    simp only [laws_FnSpans.l26]
    rw [wrap_of (a := ((i + 1 : Nat) : Int) - 1) (by omega) (by omega), wrap_of (a := ((i + 1 : Nat) : Int) + 1) (by omega) (by omega), e1, e2]
    refine Ev.ite_pos (by omega) (Ev.ite_pos ge_0 (Ev.ite_pos (by omega) (Ev.ite_pos (by omega) (Ev.ite_pos (by omega) (Ev.ite_pos g3'.1 ?_)))))
    exact l26_ev n (i + 1) _ (by omega) g3
end

theorem pure_FnSpans : ∀ (x0 : (Ty.sl (.int .u8)).den), Fits (.sl (.int .u8)) x0 → ∃ k, laws_FnSpans.c.fn k (x0, ()) () = some true := by
  intro code hf
  refine Ev.get (g := fun k => laws_FnSpans.f k code) ?_
  unfold laws_FnSpans.f laws_big.f
  simp only [Option.bind_some]
  refine Ev.ite_both (fun _ => Ev.ret _) fun hbig => ?_
  have hlen : code.length ≤ 1048576 := by
    have : ¬ (code.length : Int) > 1048576 := by simpa using hbig
    omega
  obtain ⟨⟨t, a, b⟩, hd, hany⟩ := drawSpans_out code hlen
  have hany : Any t := hany
  have hsm := hany.small
  have hnm := hany.names
  have hL := spansV_len t a b
  refine Ev.bind hd (Ev.bind (implSpans_ev t hsm hnm a b) (Ev.bind (specSpans_ev t hsm hnm a b) (Ev.ite_pos rfl ?_)))
  have hok := implSpansOk_ev t hsm hnm a b (spansV t a b)
  by_cases he : spansV t a b = []
  · refine Ev.ite_pos (by rw [he]; rfl) (Ev.bind hok (Ev.cast (Ev.ret _) ?_))
    simp [okB, he]
  obtain ⟨hb, ha0, hab, hb5, hba, hch⟩ := spans_chain he
  have hpos : 0 < (spansV t a b).length := List.length_pos_iff.2 he
  refine Ev.ite_neg (by omega) (Ev.bind (a := true) (Ev.cast hok (by simp [okB, he])) (Ev.ite_pos rfl ?_))
  generalize hLL : spansV t a b = L at *
  have hall : ∀ s ∈ L, wrongB t s = false := fun s hs => by
    obtain ⟨q1, q2, q3⟩ := ChainS.mem hch s hs
    exact right_not q1 (by omega) (by omega)
  refine Ev.bind (Ev.cast (blame_ev hsm hnm hb L hL) (idx_none' _ L 0 hall)) (Ev.ite_pos rfl (Ev.ite_pos (by omega) ?_))
  have h0 : (L.getD 0 z73).f0 = a := by
    cases L with
    | nil => exact absurd rfl he
    | cons s l => exact hch.1
  have h1 : (rd_T73 L ((L.length : Int) - 1)).f1 = b := by
    obtain ⟨l', s, rfl⟩ : ∃ l' s, L = l' ++ [s] := ⟨L.dropLast, L.getLast he, (List.dropLast_concat_getLast he).symm⟩
    have := (ChainS.last hch).2.2
    show ((l' ++ [s]).getD (((l' ++ [s]).length : Int) - 1).toNat _).f1 = b
    rw [show (((l' ++ [s]).length : Int) - 1).toNat = l'.length by simp, List.getD_eq_getElem?_getD]
    simpa using this
  rw [wrap_of (a := (L.length : Int) - 1) (by omega) (by omega)]
  refine Ev.ite_pos h0 (Ev.ite_pos (by omega) (Ev.ite_pos (by omega) (Ev.ite_pos h1 ?_)))
  exact l26_ev hany hb ha0 hb5 hL hch (L.length - 1) 0 a (by omega) (by simpa using hch)
end Go.Proofs.Ytfmbebgpbgcpeaa.PDr
