/- Plain Lean over the printed functions: the spans of cycles, both ways. -/
import Derived.Test.YtfmbebgpbgcpeaaC10
set_option linter.unusedVariables false
set_option linter.unusedSimpArgs false
namespace Go.Proofs.Ytfmbebgpbgcpeaa.PDr
open Go Go.RowKit Go.Proofs.Ytfmbebgpbgcpeaa.V Go.Proofs.Ytfmbebgpbgcpeaa.C

def lastS (l : List S73) : S73 := l.getD (l.length - 1) z73
def goesOn (t : S33) (c : Int) (l : List S73) : Prop := ¬ l = [] ∧ ¬ c.tmod t.f6 = 0 ∧ (lastS l).f3 = (whoV t (c.tmod t.f6)).1 ∧ slotB t.f10 (c.tmod t.f6) = slotB t.f10 ((c - 1).tmod t.f6)
open Classical in
noncomputable def spanStep (t : S33) (c : Int) (l : List S73) : List S73 :=
  if goesOn t c l then l.set (l.length - 1) ((lastS l).f0, c + 1, (lastS l).f2, (lastS l).f3) else l ++ [(c, c + 1, (whoV t (c.tmod t.f6)).2, (whoV t (c.tmod t.f6)).1)]
noncomputable def spansN (t : S33) : Nat → Int → List S73 → List S73
  | 0, _, l => l
  | n + 1, c, l => spansN t n (c + 1) (spanStep t c l)
theorem step_len (t : S33) (c : Int) (l : List S73) : (spanStep t c l).length ≤ l.length + 1 ∧ spanStep t c l ≠ [] := by
  unfold spanStep
  split
  · rename_i h
    refine ⟨by simp, fun e => h.1 ?_⟩
    have := congrArg List.length e
    simpa using this
  · simp
theorem spansN_len (t : S33) : ∀ (n : Nat) (c : Int) (l : List S73), (spansN t n c l).length ≤ l.length + n
  | 0, _, _ => Nat.le_refl _
  | n + 1, c, l => by
    have h1 := spansN_len t n (c + 1) (spanStep t c l)
    have h2 := (step_len t c l).1
    simp only [spansN]
    omega
theorem last_ix {l : List S73} (h : ¬ l = []) (hl : l.length ≤ 100000) : wrap64 ((l.length : Int) - 1) = ((l.length - 1 : Nat) : Int) ∧ 0 < l.length := by
  have : 0 < l.length := List.length_pos_iff.2 h
  refine ⟨?_, this⟩
  rw [wrap_of (by omega) (by omega)]
  omega

section
variable {t : S33} (hS : t.f10.length ≤ 1048576) (hm : ¬ t.f6 = 0) (to : Int) (hto : to ≤ 50000)
include hS hm hto
theorem specSpans_l10 : ∀ (n : Nat) (c : Int) (l : List S73), c + n = to → 0 ≤ c → l.length + n ≤ 60000 → Ev (fun k => spec_Spans.l10 k to c t l) (spansN t n c l)
  | 0, c, l, h, _, _ => Ev.step (by simp only [spec_Spans.l10]; exact Ev.ite_neg (by omega) (Ev.ret _))
  | n + 1, c, l, h, h0, hl => by
    have ih := specSpans_l10 n (c + 1) (spanStep t c l) (by omega) (by omega) (by have := (step_len t c l).1; omega)
    have hn : wrap64 (c + 1) = c + 1 := wrap_of (by omega) (by omega)
    have hp : wrap64 (c - 1) = c - 1 := wrap_of (by omega) (by omega)
    refine Ev.step ?_
    simp only [spec_Spans.l10, hn, hp, spansN]
    refine Ev.ite_pos (by omega) (Ev.bind (specWho t hS hm c) ?_)
    have add : ¬ goesOn t c l → Ev (fun k => if l.length + ([(c, c + 1, (whoV t (c.tmod t.f6)).2, (whoV t (c.tmod t.f6)).1)] : List S73).length < 4398046511104 then spec_Spans.l10 k to (c + 1) t (l ++ [(c, c + 1, (whoV t (c.tmod t.f6)).2, (whoV t (c.tmod t.f6)).1)]) else none) (spansN t n (c + 1) (spanStep t c l)) := by
      intro hg
      refine Ev.ite_pos (by simp; omega) ?_
      have : spanStep t c l = l ++ [(c, c + 1, (whoV t (c.tmod t.f6)).2, (whoV t (c.tmod t.f6)).1)] := if_neg hg
      rw [this] at ih ⊢
      exact ih
    by_cases e0 : l = []
    · exact Ev.ite_neg (by simp [e0]) (add fun h => h.1 e0)
    obtain ⟨hix, hpos⟩ := last_ix e0 (by omega)
    refine Ev.ite_pos (by omega) (Ev.ite_neg hm ?_)
    by_cases e1 : c.tmod t.f6 = 0
    · exact Ev.ite_pos e1 (add fun h => h.2.1 e1)
    rw [hix]
    refine Ev.ite_neg e1 (Ev.ite_pos (by omega) (Ev.ite_pos (by omega) ?_))
    simp only [rd_T73, Int.toNat_natCast]
    by_cases e2 : (lastS l).f3 = (whoV t (c.tmod t.f6)).1
    · refine Ev.ite_pos e2 (Ev.bind (slot_ev t hS hm c) (Ev.bind (slot_ev t hS hm (c - 1)) ?_))
      by_cases e3 : slotB t.f10 (c.tmod t.f6) = slotB t.f10 ((c - 1).tmod t.f6)
      · refine Ev.ite_pos e3 (Ev.ite_pos (by omega) (Ev.ite_pos (by omega) ?_))
        have : spanStep t c l = l.set (l.length - 1) ((lastS l).f0, c + 1, (lastS l).f2, (lastS l).f3) := if_pos ⟨e0, e1, e2, e3⟩
        rw [this] at ih ⊢
        exact ih
      · exact Ev.ite_neg e3 (add fun h => e3 h.2.2.2)
    · exact Ev.ite_neg e2 (add fun h => e2 h.2.2.1)
theorem implSpans_l8 : ∀ (n : Nat) (c s : Int) (l : List S73), c + n = to → 0 ≤ c → l.length + n ≤ 60000 → (¬ l = [] → s = slotB t.f10 ((c - 1).tmod t.f6)) → Ev (fun k => impl_spans.l8 k to s c t l) (spansN t n c l)
  | 0, c, s, l, h, _, _, _ => Ev.step (by simp only [impl_spans.l8]; exact Ev.ite_neg (by omega) (Ev.ret _))
  | n + 1, c, s, l, h, h0, hl, hs => by
    have hc1 : c + 1 - 1 = c := by omega
    have ih : ∀ s', s' = slotB t.f10 (c.tmod t.f6) → Ev (fun k => impl_spans.l8 k to s' (c + 1) t (spanStep t c l)) (spansN t n (c + 1) (spanStep t c l)) := fun s' e => implSpans_l8 n (c + 1) s' (spanStep t c l) (by omega) (by omega) (by have := (step_len t c l).1; omega) (fun _ => by rw [hc1]; exact e)
    have hn : wrap64 (c + 1) = c + 1 := wrap_of (by omega) (by omega)
    refine Ev.step ?_
    simp only [impl_spans.l8, hn, spansN]
    refine Ev.ite_pos (by omega) (Ev.bind (implPhase t hS hm c) (Ev.bind (implSlot t hS hm c) ?_))
    have add : ¬ goesOn t c l → Ev (fun k => if l.length + ([(c, c + 1, (whoV t (c.tmod t.f6)).2, (whoV t (c.tmod t.f6)).1)] : List S73).length < 4398046511104 then impl_spans.l8 k to (slotB t.f10 (c.tmod t.f6)) (c + 1) t (l ++ [(c, c + 1, (whoV t (c.tmod t.f6)).2, (whoV t (c.tmod t.f6)).1)]) else none) (spansN t n (c + 1) (spanStep t c l)) := by
      intro hg
      refine Ev.ite_pos (by simp; omega) ?_
      have ih := ih _ rfl
      have : spanStep t c l = l ++ [(c, c + 1, (whoV t (c.tmod t.f6)).2, (whoV t (c.tmod t.f6)).1)] := if_neg hg
      rw [this] at ih ⊢
      exact ih
    by_cases e0 : l = []
    · subst e0
      exact Ev.ite_neg (by decide) (add fun h => h.1 rfl)
    obtain ⟨hix, hpos⟩ := last_ix e0 (by omega)
    rw [hix]
    refine Ev.ite_pos (by omega) ?_
    by_cases e3 : slotB t.f10 (c.tmod t.f6) = s
    · refine Ev.ite_pos e3 (Ev.ite_pos (by omega) (Ev.ite_pos (by omega) ?_))
      simp only [rd_T73, Int.toNat_natCast]
      by_cases e2 : (lastS l).f3 = (whoV t (c.tmod t.f6)).1
      · refine Ev.ite_pos e2 (Ev.ite_neg hm ?_)
        by_cases e1 : c.tmod t.f6 = 0
        · exact Ev.ite_pos e1 (add fun h => h.2.1 e1)
        · refine Ev.ite_neg e1 (Ev.ite_pos (by omega) (Ev.ite_pos (by omega) ?_))
          have ih := ih s e3.symm
          have : spanStep t c l = l.set (l.length - 1) ((lastS l).f0, c + 1, (lastS l).f2, (lastS l).f3) := if_pos ⟨e0, e1, e2, e3.trans (hs e0)⟩
          rw [this] at ih ⊢
          exact ih
      · exact Ev.ite_neg e2 (add fun h => e2 h.2.2.1)
    · exact Ev.ite_neg e3 (add fun h => e3 (h.2.2.2.trans (hs e0).symm))
end

noncomputable def spansV (t : S33) (a b : Int) : List S73 :=
  if soundB t = true then if inB a 0 50000 = true then if inB b 0 50000 = true then if inB (b - a) 1 5000 = true then spansN t (b - a).toNat a [] else [] else [] else [] else []
theorem spansV_len (t : S33) (a b : Int) : (spansV t a b).length ≤ 5000 := by
  unfold spansV
  split
  · split
    · split
      · split
        · rename_i h
          rw [in_iff] at h
          have := spansN_len t (b - a).toNat a []
          simp at this
          omega
        · simp
      · simp
    · simp
  · simp
theorem specSpans_ev (t : S33) (hs : Small t) (hnm : ∀ x ∈ t.f7, x.f0.size ≤ 9223372036854775807) (a b : Int) : Ev (fun k => spec_Spans.f k t a b) (spansV t a b) := by
  unfold spec_Spans.f spec_l15Ok.f
  simp only [l01In_some, Option.bind_some]
  unfold spansV
  by_cases c0 : soundB t = true
  · obtain ⟨q1, _, q2, _⟩ := sound_spans c0
    rw [if_pos c0]
    refine Ev.bind (a := inB a 0 50000) (Ev.bind (specSound t hs hnm) (Ev.ite_pos c0 (Ev.ret _))) ?_
    refine Ev.ite_both (fun c1 => ?_) (fun c1 => Ev.cast (Ev.ret _) (by rw [if_neg c1]))
    rw [if_pos c1]
    refine Ev.ite_both (fun c2 => ?_) (fun c2 => Ev.cast (Ev.ret _) (by rw [if_neg c2]))
    rw [if_pos c2]
    have d1 := in_iff.1 c1
    have d2 := in_iff.1 c2
    rw [wrap_of (by omega) (by omega)]
    refine Ev.ite_both (fun c3 => ?_) (fun c3 => Ev.cast (Ev.ret _) (by rw [if_neg c3]))
    rw [if_pos c3]
    have d3 := in_iff.1 c3
    exact specSpans_l10 hs.slots ((show ¬ t.f6 = 0 from fun e => by have := q1.major; omega)) b d2.2 _ a [] (by omega) d1.1 (by simp; omega)
  · rw [if_neg c0]
    refine Ev.bind (a := false) (Ev.bind (specSound t hs hnm) (Ev.ite_neg c0 (Ev.ret _))) (Ev.ite_neg (by simp) (Ev.ret _))
theorem implSpans_ev (t : S33) (hs : Small t) (hnm : ∀ x ∈ t.f7, x.f0.size ≤ 9223372036854775807) (a b : Int) : Ev (fun k => impl_Spans.f k t a b) (spansV t a b) := by
  unfold impl_Spans.f impl_isCycle.f
  simp only [within_some, Option.bind_some]
  unfold spansV
  refine Ev.bind (implSound t hs hnm) ?_
  refine Ev.ite_both (fun c0 => ?_) (fun c0 => Ev.cast (Ev.ret _) (by rw [if_neg c0]))
  rw [if_pos c0]
  obtain ⟨q1, _, q2, _⟩ := sound_spans c0
  refine Ev.ite_both (fun c1 => ?_) (fun c1 => Ev.cast (Ev.ret _) (by rw [if_neg c1]))
  rw [if_pos c1]
  refine Ev.ite_both (fun c2 => ?_) (fun c2 => Ev.cast (Ev.ret _) (by rw [if_neg c2]))
  rw [if_pos c2]
  have d1 := in_iff.1 c1
  have d2 := in_iff.1 c2
  rw [wrap_of (by omega) (by omega)]
  refine Ev.ite_both (fun c3 => ?_) (fun c3 => Ev.cast (Ev.ret _) (by rw [if_neg c3]))
  rw [if_pos c3]
  have d3 := in_iff.1 c3
  unfold impl_spans.f
  exact Ev.bind (implSpans_l8 hs.slots ((show ¬ t.f6 = 0 from fun e => by have := q1.major; omega)) b d2.2 _ a (-2) [] (by omega) d1.1 (by simp; omega) (fun h => absurd rfl h)) (Ev.ret _)
end Go.Proofs.Ytfmbebgpbgcpeaa.PDr
