/- Plain Lean over the printed functions: both Blame come to the same, and so the law's function answers true. -/
import Derived.Test.YtgagpmiooeoodaaGreatB10
set_option linter.unusedVariables false
set_option linter.unusedSimpArgs false
namespace Go.Proofs.YtgagpmiooeoodaaGreat.PAll
open Go Go.RowKit Go.Proofs.YtgagpmiooeoodaaGreat.A Go.Proofs.YtgagpmiooeoodaaGreat.B

/-- One of d cycles from c on is not as the span says. -/
def badN (t : S42) (s : S96) : Int → Nat → Bool
  | _, 0 => false
  | c, d + 1 => if (whoV t (c.tmod t.f6)).1 = s.f3 ∧ (whoV t (c.tmod t.f6)).2 = s.f2 then badN t s (c + 1) d else true
def wrongB (t : S42) (s : S96) : Bool :=
  if inB s.f0 0 50000 = true then if inB s.f1 0 50000 = true then if s.f0 ≥ s.f1 then true else badN t s s.f0 (s.f1 - s.f0).toNat else true else true
section
variable (t : S42) (hS : t.f10.length ≤ 1048576) (hm : ¬ t.f6 = 0)
include hS hm
theorem wrong_loop (s : S96) (hs : s.f1 ≤ 50000) : ∀ (d : Nat) (c : Int), 0 ≤ c → c + d = s.f1 → Ev (fun k => impl_isWrong.l8 k c t s) (badN t s c d)
  | 0, c, h0, h1 => Ev.step (by simp only [impl_isWrong.l8]; exact Ev.ite_neg (by omega) (Ev.ret _))
  | d + 1, c, h0, h1 => Ev.step (by
    have hn : wrap64 (c + 1) = c + 1 := wrap_of (by omega) (by omega)
    simp only [impl_isWrong.l8, hn]
    refine Ev.ite_pos (by omega) (Ev.bind (implPhase t hS hm c) ?_)
    have ih := wrong_loop s hs d (c + 1) (by omega) (by omega)
    by_cases e1 : (whoV t (c.tmod t.f6)).1 = s.f3
    · refine Ev.ite_pos e1 ?_
      by_cases e2 : (whoV t (c.tmod t.f6)).2 = s.f2
      · exact Ev.ite_pos e2 (Ev.cast ih (by rw [badN, if_pos ⟨e1, e2⟩]))
      · exact Ev.ite_neg e2 (Ev.cast (Ev.ret _) (by rw [badN, if_neg fun h => e2 h.2]))
    · exact Ev.ite_neg e1 (Ev.cast (Ev.ret _) (by rw [badN, if_neg fun h => e1 h.1])))
theorem implWrong (s : S96) : Ev (fun k => impl_isWrong.f k t s) (wrongB t s) := by
  unfold impl_isWrong.f wrongB impl_isCycle.f
  simp only [within_some, Option.bind_some]
  by_cases c1 : inB s.f0 0 50000 = true
  · refine Ev.ite_pos c1 ?_
    rw [if_pos c1]
    by_cases c2 : inB s.f1 0 50000 = true
    · refine Ev.ite_pos c2 ?_
      rw [if_pos c2]
      rw [in_iff] at c1 c2
      by_cases c3 : s.f0 ≥ s.f1
      · exact Ev.ite_pos c3 (Ev.cast (Ev.ret _) (by rw [if_pos c3]))
      · refine Ev.ite_neg c3 ?_
        rw [if_neg c3]
        exact wrong_loop t hS hm s c2.2 _ _ c1.1 (by omega)
    · exact Ev.ite_neg c2 (Ev.cast (Ev.ret _) (by rw [if_neg c2]))
  · exact Ev.ite_neg c1 (Ev.cast (Ev.ret _) (by rw [if_neg c1]))
theorem blame_in (l : List S96) (i : Nat) (s : S96) (hs : s.f1 ≤ 50000) : ∀ (d : Nat) (c : Int), 0 ≤ c → c + d = s.f1 →
    (badN t s c d = true → Ev (fun k => spec_Blame.l20 k l i c t s) (i : Int)) ∧ (badN t s c d = false → ∀ v, Ev (fun k => spec_Blame.l8 k l (wrap64 ((i : Int) + 1)) t) v → Ev (fun k => spec_Blame.l20 k l i c t s) v)
  | 0, c, h0, h1 => ⟨fun h => (by cases h), fun _ v hv => Ev.step (by simp only [spec_Blame.l20]; exact Ev.ite_neg (by omega) hv)⟩
  | d + 1, c, h0, h1 => by
    have hn : wrap64 (c + 1) = c + 1 := wrap_of (by omega) (by omega)
    obtain ⟨ih1, ih2⟩ := blame_in l i s hs d (c + 1) (by omega) (by omega)
    have go : ∀ v, ((whoV t (c.tmod t.f6)).1 = s.f3 ∧ (whoV t (c.tmod t.f6)).2 = s.f2 → Ev (fun k => spec_Blame.l20 k l i (c + 1) t s) v) → (¬ ((whoV t (c.tmod t.f6)).1 = s.f3 ∧ (whoV t (c.tmod t.f6)).2 = s.f2) → v = (i : Int)) → Ev (fun k => spec_Blame.l20 k l i c t s) v := by
      intro v h1 h2
      refine Ev.step ?_
      simp only [spec_Blame.l20, hn]
      refine Ev.ite_pos (by omega) (Ev.bind (specWho t hS hm c) ?_)
      by_cases e1 : (whoV t (c.tmod t.f6)).1 = s.f3
      · refine Ev.ite_pos e1 ?_
        by_cases e2 : (whoV t (c.tmod t.f6)).2 = s.f2
        · exact Ev.ite_pos e2 (h1 ⟨e1, e2⟩)
        · exact Ev.ite_neg e2 (Ev.cast (Ev.ret _) (h2 fun h => e2 h.2).symm)
      · exact Ev.ite_neg e1 (Ev.cast (Ev.ret _) (h2 fun h => e1 h.1).symm)
    rw [badN]
    by_cases e : (whoV t (c.tmod t.f6)).1 = s.f3 ∧ (whoV t (c.tmod t.f6)).2 = s.f2
    · rw [if_pos e]
      exact ⟨fun h => go _ (fun _ => ih1 h) (fun h => absurd e h), fun h v hv => go v (fun _ => ih2 h v hv) (fun h => absurd e h)⟩
    · rw [if_neg e]
      exact ⟨fun _ => go _ (fun h => absurd h e) (fun _ => rfl), fun h => by cases h⟩
theorem specBlames (l : List S96) (hl : l.length ≤ 5000) : Ev (fun k => spec_Blame.l8 k l 0 t) (idxOf (wrongB t) l 0) := by
  refine Ev.idx l z96 _ (fun k i => spec_Blame.l8 k l i t) (Ev.step ?_) (fun i hi hp => Ev.step ?_) (fun i hi hp v hv => Ev.step ?_)
  · simp only [spec_Blame.l8]; exact Ev.ite_neg (by omega) (Ev.ret _)
  all_goals
    have hr : rd_T96 l (i : Int) = l.getD i z96 := rfl
    simp only [spec_Blame.l8, hr, l01In_some, Option.bind_some]
    refine Ev.ite_pos (lt_in hi) (Ev.ite_pos ge_0 (Ev.ite_pos (lt_in hi) ?_))
    generalize l.getD i z96 = s at hp ⊢
    unfold wrongB at hp
  · by_cases c1 : inB s.f0 0 50000 = true
    · refine Ev.ite_pos c1 ?_
      rw [if_pos c1] at hp
      rw [in_iff] at c1
      rw [wrap_of (a := s.f0 + 1) (by omega) (by omega)]
      by_cases c2 : inB s.f1 (s.f0 + 1) 50000 = true
      · refine Ev.ite_pos c2 ?_
        rw [in_iff] at c2
        rw [if_pos (in_iff.2 ⟨by omega, by omega⟩), if_neg (by omega)] at hp
        exact (blame_in t hS hm l i s c2.2 _ _ c1.1 (by omega)).1 hp
      · exact Ev.ite_neg c2 (Ev.ret _)
    · exact Ev.ite_neg c1 (Ev.ret _)
  · by_cases c1 : inB s.f0 0 50000 = true
    · refine Ev.ite_pos c1 ?_
      rw [if_pos c1] at hp
      rw [in_iff] at c1
      rw [wrap_of (a := s.f0 + 1) (by omega) (by omega)]
      by_cases c2 : inB s.f1 0 50000 = true
      · rw [if_pos c2] at hp
        rw [in_iff] at c2
        by_cases c3 : s.f0 ≥ s.f1
        · rw [if_pos c3] at hp; cases hp
        · rw [if_neg c3] at hp
          refine Ev.ite_pos (in_iff.2 ⟨by omega, by omega⟩) ((blame_in t hS hm l i s c2.2 _ _ c1.1 (by omega)).2 hp v ?_)
          rw [wrap_succ hi (by omega)]
          exact hv
      · rw [if_neg c2] at hp; cases hp
    · rw [if_neg c1] at hp; cases hp
theorem implBlames (l : List S96) (hl : l.length ≤ 5000) : Ev (fun k => slices_IndexFunc_81_82.f k l t) (idxOf (wrongB t) l 0) := by
  unfold slices_IndexFunc_81_82.f
  have h1 : ∀ s, Ev (fun k => impl_Blame_1.f k s t) (wrongB t s) := fun s => by
    unfold impl_Blame_1.f
    exact Ev.bind (implWrong t hS hm s) (Ev.ret _)
  refine Ev.idx l z96 _ (fun k i => slices_IndexFunc_81_82.l4 k l t (l.length : Int) i) (Ev.step ?_) (fun i hi hp => Ev.step ?_) (fun i hi hp v hv => Ev.step ?_)
  · simp only [slices_IndexFunc_81_82.l4]; exact Ev.ite_neg (by omega) (Ev.ret _)
  all_goals
    have hr : rd_T96 l (i : Int) = l.getD i z96 := rfl
    simp only [slices_IndexFunc_81_82.l4, hr, wrap_succ hi (by omega)]
    refine Ev.ite_pos (lt_in hi) (Ev.ite_pos ge_0 (Ev.ite_pos (lt_in hi) (Ev.bind (h1 _) ?_)))
    rw [hp]
  · exact Ev.ite_pos rfl (Ev.ret _)
  · exact Ev.ite_neg (by simp) hv
end
theorem blame_both (t : S42) (l : List S96) (hs : Small t) (hnm : ∀ x ∈ t.f7, x.f0.size ≤ 9223372036854775807) : ∃ v, Ev (fun k => impl_Blame.f k t l) v ∧ Ev (fun k => spec_Blame.f k t l) v := by
  unfold impl_Blame.f spec_Blame.f
  cases hb : soundB t with
  | false =>
    exact ⟨-1, Ev.bind (Ev.cast (implSound t hs hnm) hb) (Ev.ite_neg (by simp) (Ev.ret _)), Ev.bind (Ev.cast (specSound t hs hnm) hb) (Ev.ite_neg (by simp) (Ev.ret _))⟩
  | true =>
    obtain ⟨h1, h2, h3, h4⟩ := sound_spans hb
    have hm := h1.major
    by_cases hl : (l.length : Int) > 5000
    · exact ⟨-1, Ev.bind (Ev.cast (implSound t hs hnm) hb) (Ev.ite_pos rfl (Ev.ite_pos hl (Ev.ret _))), Ev.bind (Ev.cast (specSound t hs hnm) hb) (Ev.ite_pos rfl (Ev.ite_pos hl (Ev.ret _)))⟩
    · exact ⟨_, Ev.bind (Ev.cast (implSound t hs hnm) hb) (Ev.ite_pos rfl (Ev.ite_neg hl (Ev.bind (implBlames t (by omega) (by omega) l (by omega)) (Ev.ret _)))), Ev.bind (Ev.cast (specSound t hs hnm) hb) (Ev.ite_pos rfl (Ev.ite_neg hl (specBlames t (by omega) (by omega) l (by omega))))⟩
theorem pure_FnExactBlame : ∀ (x0 : T31.den) (x1 : List S106), Fits T31 x0 → Fits (.sl T106) x1 → ∃ k, laws_FnExactBlame.c.fn k (x0, x1, ()) = some true := by
  intro t l h hl
  refine Ev.get (g := fun k => laws_FnExactBlame.f k t l) ?_
  obtain ⟨v, hv, hb⟩ := szTables_ev' t h
  have hll : l.length ≤ maxLen := hl.1
  have hmx : maxLen ≤ 9223372036854775807 := by unfold maxLen; omega
  unfold laws_FnExactBlame.f
  refine Ev.bind hv ?_
  by_cases c : v < 0
  · exact Ev.ite_pos c (Ev.ret _)
  · refine Ev.ite_neg c ?_
    obtain ⟨hs, hle⟩ := hb (by omega)
    have e : wrap64 (v - (l.length : Int)) = v - (l.length : Int) := wrap_of (by omega) (by omega)
    unfold laws_szSpanS.f
    rw [e]
    by_cases c2 : v - (l.length : Int) < 0
    · simp only [if_pos c2, Option.bind_some]
      exact Ev.ite_pos (by omega) (Ev.ret _)
    · simp only [if_neg c2, Option.bind_some]

      have ht := toTables_ev t hs
      have hl' := toSpanS_ev l (by omega)
      obtain ⟨u, h1, h2⟩ := blame_both t l hs (names_fit t h)
      exact Ev.bind ht (Ev.bind hl' (Ev.bind h2 (Ev.bind ht (Ev.bind hl' (Ev.bind h1 (Ev.ite_pos rfl (Ev.bind ht (Ev.bind (eqTables_ev t hs) (Ev.ite_pos rfl (Ev.bind hl' (Ev.bind (eqSpanS_ev l (by omega)) (Ev.ite_pos rfl (Ev.ret _)))))))))))))
end Go.Proofs.YtgagpmiooeoodaaGreat.PAll
