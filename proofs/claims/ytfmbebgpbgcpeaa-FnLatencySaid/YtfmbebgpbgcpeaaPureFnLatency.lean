/- Plain Lean over the printed functions: the longest wait over three frames is what Latency tells, so the law's function answers true. -/
import Derived.Test.YtfmbebgpbgcpeaaD2
import Derived.Test.YtfmbebgpbgcpeaaC10
set_option linter.unusedVariables false
set_option linter.unusedSimpArgs false
set_option linter.unusedSectionVars false
namespace Go.Proofs.Ytfmbebgpbgcpeaa.PDr
open Go Go.RowKit Go.Proofs.Ytfmbebgpbgcpeaa.V Go.Proofs.Ytfmbebgpbgcpeaa.C

/-! ### Latency, as the program reckons it: slot by slot -/
def latS (t : S33) (p : Int) : List S61 → Int → Int → Int → Int × Int × Int
  | [], f, e, m => (f, e, m)
  | s :: l, f, e, m => if s.f0 = p then (if f < 0 then latS t p l (s.f1 + t.f4) (s.f1 + s.f2 - t.f5) m else latS t p l f (s.f1 + s.f2 - t.f5) (max m (s.f1 + t.f4 - e))) else latS t p l f e m
/-- What is known of the program's three numbers ahead of a slot. -/
structure LatI (f e m fin : Int) : Prop where
  none : f < 0 → f = -1 ∧ m = -1
  some : 0 ≤ f → f ≤ 5000 ∧ 1 ≤ e ∧ e ≤ fin ∧ -1 ≤ m ∧ m ≤ 5000
def latEnd (t : S33) (r : Int × Int × Int) : Int := if r.1 < 0 then -1 else mx r.2.2 (r.1 + t.f6 - r.2.1)

section
variable {t : S33} (ht : SpansIn t) {p : Int}
include ht

theorem LatI.own {f e m fin : Int} (h : LatI f e m fin) {s : S61} (g : SlotIn t s fin) (h0 : 0 ≤ fin) : (f < 0 → LatI (s.f1 + t.f4) (s.f1 + s.f2 - t.f5) m (s.f1 + s.f2)) ∧ (0 ≤ f → LatI f (s.f1 + s.f2 - t.f5) (max m (s.f1 + t.f4 - e)) (s.f1 + s.f2)) := by
  have hp := ht.pad; have hg := ht.guard; have hm := ht.major
  have q1 := g.lo; have q2 := g.len; have q3 := g.hi
  constructor
  · intro hf
    obtain ⟨_, k⟩ := h.none hf
    exact ⟨fun hh => absurd hh (by omega), fun _ => by omega⟩
  · intro hf
    obtain ⟨k1, k2, k3, k4, k5⟩ := h.some hf
    exact ⟨fun hh => absurd hh (by omega), fun _ => by omega⟩
theorem LatI.more {f e m fin : Int} (h : LatI f e m fin) {s : S61} (g : SlotIn t s fin) : LatI f e m (s.f1 + s.f2) := by
  have hp := ht.pad; have hg := ht.guard
  have q1 := g.lo; have q2 := g.len
  exact ⟨h.none, fun hf => by obtain ⟨k1, k2, k3, k4, k5⟩ := h.some hf; omega⟩
theorem latS_in : ∀ (l : List S61) (f e m fin : Int), slotsL t l fin = true → 0 ≤ fin → fin ≤ t.f6 → LatI f e m fin → LatI (latS t p l f e m).1 (latS t p l f e m).2.1 (latS t p l f e m).2.2 t.f6
  | [], f, e, m, fin, hs, h0, h1, h => ⟨h.none, fun hf => by obtain ⟨k1, k2, k3, k4, k5⟩ := h.some hf; exact ⟨k1, k2, Int.le_trans k3 h1, k4, k5⟩⟩
  | s :: l, f, e, m, fin, hs, h0, h1, h => by
    have hp := ht.pad; have hg := ht.guard
    obtain ⟨g1, g2⟩ := slotsL_cons hs
    have q1 := g1.lo; have q2 := g1.len; have q3 := g1.hi
    obtain ⟨o1, o2⟩ := h.own ht g1 h0
    unfold latS
    split
    · split
      · rename_i hf; exact latS_in l _ _ _ _ g2 (by omega) q3 (o1 hf)
      · rename_i hf; exact latS_in l _ _ _ _ g2 (by omega) q3 (o2 (by omega))
    · exact latS_in l _ _ _ _ g2 (by omega) q3 (h.more ht g1)
theorem implLat_l (hS : t.f10.length ≤ 16) : ∀ (n i : Nat) (fin f e m : Int), i + n = t.f10.length → 0 ≤ fin → fin ≤ t.f6 → slotsL t (t.f10.drop i) fin = true → LatI f e m fin →
    Ev (fun k => impl_latency.l6 k p f e m t.f10 (t.f10.length : Int) (i : Int) t) (latEnd t (latS t p (t.f10.drop i) f e m))
  | 0, i, fin, f, e, m, hi, h0, h1, hs, h => by
    have hp := ht.pad; have hg := ht.guard; have hm := ht.major
    rw [List.drop_eq_nil_of_le (by omega), show latEnd t (latS t p [] f e m) = (if f < 0 then -1 else mx m (f + t.f6 - e)) from rfl]
    refine Ev.step ?_
    simp only [impl_latency.l6]
    refine Ev.ite_neg (by omega) ?_
    by_cases hf : f < 0
    · exact Ev.ite_pos hf (Ev.cast (Ev.ret _) (by rw [if_pos hf]))
    · obtain ⟨k1, k2, k3, k4, k5⟩ := h.some (by omega)
      refine Ev.ite_neg hf ?_
      rw [wrap_of (a := f + t.f6) (by omega) (by omega), wrap_of (by omega) (by omega), if_neg hf]
      exact Ev.ret _
  | n + 1, i, fin, f, e, m, hi, h0, h1, hs, h => by
    have hp := ht.pad; have hg := ht.guard; have hm := ht.major
    have hlt : i < t.f10.length := by omega
    have hsd := Ev.drop_getD t.f10 z61 i hlt
    rw [hsd] at hs
    obtain ⟨g1, g2⟩ := slotsL_cons hs
    have hr0 : rd_T61 t.f10 (i : Int) = t.f10.getD i z61 := rfl
    have ih := fun fin f e m => implLat_l hS n (i + 1) fin f e m (by omega)
    have q1 := g1.lo; have q2 := g1.len; have q3 := g1.hi
    obtain ⟨o1, o2⟩ := h.own ht g1 h0
    have o3 := h.more ht g1
    rw [hsd]
    unfold latS
    refine Ev.step ?_
    simp only [impl_latency.l6, hr0, wrap_succ hlt (by omega)]
    generalize t.f10.getD i z61 = s at *
    have e1 : wrap64 (s.f1 + t.f4) = s.f1 + t.f4 := wrap_of (by omega) (by omega)
    have e2 : wrap64 (wrap64 (s.f1 + s.f2) - t.f5) = s.f1 + s.f2 - t.f5 := by rw [wrap_of (a := s.f1 + s.f2) (by omega) (by omega), wrap_of (by omega) (by omega)]
    rw [e1, e2]
    refine Ev.ite_pos (lt_in hlt) (Ev.ite_pos ge_0 (Ev.ite_pos (lt_in hlt) ?_))
    by_cases hsp : s.f0 = p
    · rw [if_pos hsp]
      refine Ev.ite_pos hsp ?_
      by_cases hf : f < 0
      · rw [if_pos hf]
        exact Ev.ite_pos hf (ih _ _ _ _ (by omega) q3 g2 (o1 hf))
      · rw [if_neg hf]
        obtain ⟨k1, k2, k3, k4, k5⟩ := h.some (by omega)
        rw [wrap_of (a := s.f1 + t.f4 - e) (by omega) (by omega)]
        have hmx : mx m (s.f1 + t.f4 - e) = max m (s.f1 + t.f4 - e) := by unfold mx; split <;> omega
        rw [hmx]
        exact Ev.ite_neg hf (ih _ _ _ _ (by omega) q3 g2 (o2 (by omega)))
    · rw [if_neg hsp]
      exact Ev.ite_neg hsp (ih _ _ _ _ (by omega) q3 g2 o3)
end
theorem implLat {t : S33} (hb : soundB t = true) (p : Int) : Ev (fun k => impl_latency.f k t p) (latEnd t (latS t p t.f10 (-1) 0 (-1))) := by
  obtain ⟨h1, h2, h3, h4⟩ := sound_spans hb
  unfold impl_latency.f
  have := implLat_l (p := p) h1 h3 t.f10.length 0 0 (-1) 0 (-1) (by omega) (by omega) (by have := h1.major; omega) (by simpa using h2) ⟨fun _ => ⟨rfl, rfl⟩, fun h => absurd h (by omega)⟩
  simpa using this

/-! ### The share -/
theorem share_l {t : S33} (ht : SpansIn t) (hS : t.f10.length ≤ 16) (p : Int) : ∀ (n i : Nat) (fin x f e m : Int), i + n = t.f10.length → 0 ≤ fin → fin ≤ t.f6 → slotsL t (t.f10.drop i) fin = true → 0 ≤ x → x ≤ 5000 * (i : Int) → (f < 0 ↔ x = 0) → (f < 0 → f = -1) →
    ∃ v, Ev (fun k => spec_ShareOf.l10 k p x (i : Int) t) v ∧ ((latS t p (t.f10.drop i) f e m).1 < 0 ↔ v = 0)
  | 0, i, fin, x, f, e, m, hi, h0, h1, hs, hx0, hx1, hfx, hf1 => by
    rw [List.drop_eq_nil_of_le (by omega)]
    refine ⟨x, Ev.step ?_, hfx⟩
    simp only [spec_ShareOf.l10]
    exact Ev.ite_neg (by omega) (Ev.ret _)
  | n + 1, i, fin, x, f, e, m, hi, h0, h1, hs, hx0, hx1, hfx, hf1 => by
    have hp := ht.pad; have hg := ht.guard; have hm := ht.major
    have hlt : i < t.f10.length := by omega
    have hsd := Ev.drop_getD t.f10 z61 i hlt
    rw [hsd] at hs
    obtain ⟨g1, g2⟩ := slotsL_cons hs
    have hr0 : rd_T61 t.f10 (i : Int) = t.f10.getD i z61 := rfl
    have ih := fun fin x f e m => share_l ht hS p n (i + 1) fin x f e m (by omega)
    have q1 := g1.lo; have q2 := g1.len; have q3 := g1.hi
    rw [hsd]
    unfold latS
    generalize hs' : t.f10.getD i z61 = s at *
    have e2 : wrap64 (wrap64 (wrap64 (x + s.f2) - t.f4) - t.f5) = x + s.f2 - t.f4 - t.f5 := by rw [wrap_of (a := x + s.f2) (by omega) (by omega), wrap_of (a := x + s.f2 - t.f4) (by omega) (by omega), wrap_of (by omega) (by omega)]
    by_cases hsp : s.f0 = p
    · rw [if_pos hsp]
      have step : ∀ v, Ev (fun k => spec_ShareOf.l10 k p (x + s.f2 - t.f4 - t.f5) ((i + 1 : Nat) : Int) t) v → Ev (fun k => spec_ShareOf.l10 k p x (i : Int) t) v := by
        intro v hv
        refine Ev.step ?_
        simp only [spec_ShareOf.l10, hr0, hs', wrap_succ hlt (by omega), e2]
        exact Ev.ite_pos (lt_in hlt) (Ev.ite_pos ge_0 (Ev.ite_pos (lt_in hlt) (Ev.ite_pos hsp (Ev.ite_pos ge_0 (Ev.ite_pos (lt_in hlt) hv)))))
      by_cases hf : f < 0
      · rw [if_pos hf]
        obtain ⟨v, h2, h3⟩ := ih (s.f1 + s.f2) (x + s.f2 - t.f4 - t.f5) (s.f1 + t.f4) (s.f1 + s.f2 - t.f5) m (by omega) q3 g2 (by omega) (by omega) (by omega) (by omega)
        exact ⟨v, step v h2, h3⟩
      · rw [if_neg hf]
        obtain ⟨v, h2, h3⟩ := ih (s.f1 + s.f2) (x + s.f2 - t.f4 - t.f5) f (s.f1 + s.f2 - t.f5) (max m (s.f1 + t.f4 - e)) (by omega) q3 g2 (by omega) (by omega) (by omega) (by omega)
        exact ⟨v, step v h2, h3⟩
    · rw [if_neg hsp]
      obtain ⟨v, h2, h3⟩ := ih (s.f1 + s.f2) x f e m (by omega) q3 g2 hx0 (by omega) hfx hf1
      refine ⟨v, Ev.step ?_, h3⟩
      simp only [spec_ShareOf.l10, hr0, hs', wrap_succ hlt (by omega)]
      exact Ev.ite_pos (lt_in hlt) (Ev.ite_pos ge_0 (Ev.ite_pos (lt_in hlt) (Ev.ite_neg hsp h2)))

/-! ### Who may begin at a cycle, as the law asks it -/
def askB (t : S33) (p x : Int) (s : S61) : Bool := decide (s.f0 = p) && (decide (wrap64 (x - s.f1) ≥ t.f4) && decide (wrap64 (x - s.f1) < wrap64 (s.f2 - t.f5)))
theorem cut {t : S33} (ht : SpansIn t) (hs : slotsL t t.f10 0 = true) : ∀ i, i ≤ t.f10.length → ∃ fin, 0 ≤ fin ∧ fin ≤ t.f6 ∧ (∀ x ∈ t.f10.take i, 0 ≤ x.f1 ∧ 0 ≤ x.f2 ∧ x.f1 + x.f2 ≤ fin) ∧ slotsL t (t.f10.drop i) fin = true
  | 0, _ => ⟨0, Int.le_refl _, by have := ht.major; omega, by simp, by simpa using hs⟩
  | i + 1, hi => by
    obtain ⟨fin, h0, h1, he, hd⟩ := cut ht hs i (by omega)
    have hp := ht.pad; have hg := ht.guard
    have hsd := Ev.drop_getD t.f10 z61 i (by omega)
    rw [hsd] at hd
    obtain ⟨g1, g2⟩ := slotsL_cons hd
    have q1 := g1.lo; have q2 := g1.len; have q3 := g1.hi
    refine ⟨_, by omega, q3, fun x hx => ?_, g2⟩
    rw [take_succ_getD z61 t.f10 i (by omega)] at hx
    rcases List.mem_append.1 hx with h | h
    · have := he x h; omega
    · rw [List.mem_singleton] at h
      subst h
      omega
theorem ask_begin {t : S33} (ht : SpansIn t) (hs : slotsL t t.f10 0 = true) {p : Int} (hp : 0 ≤ p) {x : Int} (h0 : 0 ≤ x) (h1 : x < t.f6) : t.f10.any (askB t p x) = decide (beginV t x = p) := by
  have hpd := ht.pad; have hg := ht.guard; have hm := ht.major
  rw [Bool.eq_iff_iff, decide_eq_true_eq, List.any_eq_true]
  constructor
  · rintro ⟨s, hsm, ha⟩
    simp only [askB, Bool.and_eq_true, decide_eq_true_eq] at ha
    obtain ⟨i, hi, rfl⟩ := List.getElem_of_mem hsm
    obtain ⟨fin, g0, g1, ge, gd⟩ := cut ht hs i (by omega)
    have hcy := cycles ht i fin hi g0 (by omega) ge gd
    have hgt : t.f10.getD i z61 = t.f10[i] := by rw [List.getD_eq_getElem?_getD, List.getElem?_eq_getElem hi]; rfl
    rw [hgt] at hcy
    have hin := slotsL_all ht t.f10 0 hs _ (List.getElem_mem hi)
    have q1 := hin.lo; have q2 := hin.len; have q3 := hin.hi
    rw [wrap_of (a := x - _) (by omega) (by omega), wrap_of (by omega) (by omega)] at ha
    rw [hcy.who x (by omega) (by omega)]
    exact ha.1
  · intro hb
    unfold beginV at hb
    split at hb
    case isFalse => omega
    rename_i hph
    have hn : ¬ slotB t.f10 x < 0 := fun hlt => by rw [phaseV, if_pos hlt] at hph; omega
    have hbd := slotB_bound t.f10 _ hn
    rw [phaseV, if_neg hn] at hph
    have hm := getD_mem (z := z61) (l := t.f10) (i := (slotB t.f10 x).toNat) (by omega)
    refine ⟨_, hm, ?_⟩
    simp only [askB, Bool.and_eq_true, decide_eq_true_eq]
    refine ⟨hb, ?_⟩
    split at hph
    · omega
    · split at hph
      · omega
      · omega

/-! ### The law's loop -/
section
variable {t : S33} (hb : soundB t = true) (hsm : Small t) (hnm : ∀ x ∈ t.f7, x.f0.size ≤ 9223372036854775807) {p : Int} (hp : 0 ≤ p) (mo : Int)
include hb hp

theorem ask_l (w l c : Int) (bg : Bool) (hc : 0 ≤ c) (v : Bool) : ∀ (n i : Nat) (b : Bool), i + n = t.f10.length → Ev (fun k => laws_FnLatency.l30 k p mo w l bg c (b || (t.f10.drop i).any (askB t p (c.tmod t.f6))) (t.f10.length : Int) t) v → Ev (fun k => laws_FnLatency.l30 k p mo w l bg c b (i : Int) t) v
  | 0, i, b, hi, hv => by
    rw [List.drop_eq_nil_of_le (by omega)] at hv
    rw [show (i : Int) = (t.f10.length : Int) by omega]
    simpa using hv
  | n + 1, i, b, hi, hv => by
    obtain ⟨h1, h2, h3, h4⟩ := sound_spans hb
    have hm := h1.major
    have hlt : i < t.f10.length := by omega
    have hr0 : rd_T61 t.f10 (i : Int) = t.f10.getD i z61 := rfl
    rw [Ev.drop_getD t.f10 z61 i hlt, List.any_cons] at hv
    have ih := fun b => ask_l w l c bg hc v n (i + 1) b (by omega)
    refine Ev.step ?_
    simp only [laws_FnLatency.l30, hr0, wrap_succ hlt (by omega)]
    generalize t.f10.getD i z61 = s at *
    refine Ev.ite_pos (lt_in hlt) (Ev.ite_pos ge_0 (Ev.ite_pos (lt_in hlt) (Ev.ite_neg (by omega) ?_)))
    have no : askB t p (c.tmod t.f6) s = false → Ev (fun k => laws_FnLatency.l30 k p mo w l bg c b ((i + 1 : Nat) : Int) t) v := fun h => ih b (by rw [h, Bool.false_or] at hv; exact hv)
    by_cases c1 : s.f0 = p
    · refine Ev.ite_pos c1 ?_
      by_cases c2 : wrap64 (c.tmod t.f6 - s.f1) ≥ t.f4
      · refine Ev.ite_pos c2 ?_
        by_cases c3 : wrap64 (c.tmod t.f6 - s.f1) < wrap64 (s.f2 - t.f5)
        · refine Ev.ite_pos c3 (ih true ?_)
          rw [show askB t p (c.tmod t.f6) s = true by simp only [askB, Bool.and_eq_true, decide_eq_true_eq]; exact ⟨c1, c2, c3⟩] at hv
          simpa using hv
        · exact Ev.ite_neg c3 (no (by simp only [askB, Bool.and_eq_false_iff, decide_eq_false_iff_not]; exact .inr (.inr c3)))
      · exact Ev.ite_neg c2 (no (by simp only [askB, Bool.and_eq_false_iff, decide_eq_false_iff_not]; exact .inr (.inl c2)))
    · exact Ev.ite_neg c1 (no (by simp only [askB, Bool.and_eq_false_iff, decide_eq_false_iff_not]; exact .inl c1))

include hsm hnm
theorem may_ev (c : Int) (h0 : 0 ≤ c) (h1 : c ≤ 50000) : Ev (fun k => impl_MayBegin.f k t c) (beginV t (c.tmod t.f6)) := by
  obtain ⟨g1, g2, g3, g4⟩ := sound_spans hb
  have hm := g1.major
  unfold impl_MayBegin.f
  have hcyc : impl_isCycle.f c = some true := by
    unfold impl_isCycle.f
    rw [within_some, (in_iff (a := c)).2 ⟨h0, h1⟩]; rfl
  simp only [hcyc, Option.bind_some, if_true]
  refine Ev.bind (Ev.cast (implSound t hsm hnm) hb) (Ev.ite_pos rfl (Ev.bind ?_ (Ev.ret _)))
  unfold impl_mayBegin.f
  refine Ev.bind (implPhase t (by omega) (by omega) c) ?_
  generalize c.tmod t.f6 = c
  unfold whoV beginV
  by_cases h : slotB t.f10 c < 0
  · rw [if_pos h]
    exact Ev.ite_neg (by decide) (Ev.cast (Ev.ret _) (by rw [if_neg]; rw [phaseV, if_pos h]; decide))
  · rw [if_neg h]
    by_cases h2 : phaseV t c = 2
    · exact Ev.ite_pos h2 (Ev.cast (Ev.ret _) (by rw [if_pos h2]))
    · exact Ev.ite_neg h2 (Ev.cast (Ev.ret _) (by rw [if_neg h2]))

/-- One cycle. -/
theorem cycle_ev (w l c : Int) (bg : Bool) (hc : 0 ≤ c) (hc2 : c < 3 * t.f6) (hw : 0 ≤ w ∧ w ≤ l ∧ l ≤ 20000) (v : Bool)
    (hv : Ev (fun k => laws_FnLatency.l22 k p mo (if beginV t (c.tmod t.f6) = p then 0 else if bg = true then w + 1 else w) (if beginV t (c.tmod t.f6) = p then l else if bg = true then max l (w + 1) else l) (bg || decide (beginV t (c.tmod t.f6) = p)) (c + 1) t) v) :
    Ev (fun k => laws_FnLatency.l22 k p mo w l bg c t) v := by
  obtain ⟨g1, g2, g3, g4⟩ := sound_spans hb
  have hm := g1.major
  refine Ev.step ?_
  simp only [laws_FnLatency.l22]
  rw [wrap_of (a := 3 * t.f6) (by omega) (by omega)]
  refine Ev.ite_pos hc2 ?_
  have := ask_l hb hp mo w l c bg hc v t.f10.length 0 false (by omega)
  simp only [List.drop_zero, Bool.false_or, Int.natCast_zero] at this
  refine this ?_
  have hx0 : 0 ≤ c.tmod t.f6 := Int.tmod_nonneg _ hc
  have hx1 : c.tmod t.f6 < t.f6 := Int.tmod_lt_of_pos _ (by omega)
  rw [ask_begin g1 g2 hp hx0 hx1]
  have hmay := may_ev hb hsm hnm hp c hc (by omega)
  generalize beginV t (c.tmod t.f6) = q at *
  refine Ev.step ?_
  simp only [laws_FnLatency.l30]
  rw [wrap_of (a := c + 1) (by omega) (by omega), wrap_of (a := w + 1) (by omega) (by omega)]
  refine Ev.ite_neg (by omega) ?_
  have tail : Ev (fun k => if decide (q = p) = true then (if 0 > l then laws_FnLatency.l22 k p mo 0 0 true (c + 1) t else laws_FnLatency.l22 k p mo 0 l true (c + 1) t) else if bg = true then (if w + 1 > l then laws_FnLatency.l22 k p mo (w + 1) (w + 1) bg (c + 1) t else laws_FnLatency.l22 k p mo (w + 1) l bg (c + 1) t) else (if w > l then laws_FnLatency.l22 k p mo w w bg (c + 1) t else laws_FnLatency.l22 k p mo w l bg (c + 1) t)) v := by
    by_cases hq : q = p
    · simp only [if_pos hq, hq, decide_true, Bool.or_true] at hv ⊢
      exact Ev.ite_pos trivial (Ev.ite_neg (by omega) hv)
    · simp only [if_neg hq, hq, decide_false, Bool.or_false] at hv ⊢
      refine Ev.ite_neg (by simp) ?_
      cases bg
      · simp only [Bool.false_eq_true, if_false] at hv ⊢
        exact Ev.ite_neg (by omega) hv
      · simp only [if_true] at hv ⊢
        by_cases h2 : w + 1 > l
        · rw [show max l (w + 1) = w + 1 by omega] at hv
          exact Ev.ite_pos h2 hv
        · rw [show max l (w + 1) = l by omega] at hv
          exact Ev.ite_neg h2 hv
  by_cases h97 : c.tmod 97 = 0
  · refine Ev.ite_pos h97 (Ev.bind hmay (Ev.ite_pos (by simp) tail))
  · exact Ev.ite_neg h97 tail

theorem tmod_frame (j : Nat) {x : Int} (h0 : 0 ≤ x) (h1 : x < t.f6) : ((j : Int) * t.f6 + x).tmod t.f6 = x := by
  obtain ⟨g1, g2, g3, g4⟩ := sound_spans hb
  have hm := g1.major
  have hj : 0 ≤ (j : Int) * t.f6 := Int.mul_nonneg (by omega) (by omega)
  rw [Int.tmod_eq_emod_of_nonneg (by omega), Int.add_comm, Int.add_mul_emod_self_right]
  exact Int.emod_eq_of_lt h0 h1

/-- Cycles at which it may not begin. -/
theorem idle_ev (j : Nat) (hj : j ≤ 2) (v : Bool) (bg : Bool) : ∀ (d : Nat) (x w l : Int), 0 ≤ x → x + d ≤ t.f6 → (0 ≤ w ∧ w ≤ l ∧ l + d ≤ 20000 ∧ w + d ≤ 20000) → (∀ y, x ≤ y → y < x + d → beginV t y ≠ p) →
    Ev (fun k => laws_FnLatency.l22 k p mo (if bg = true then w + d else w) (if bg = true then max l (w + d) else l) bg ((j : Int) * t.f6 + (x + d)) t) v → Ev (fun k => laws_FnLatency.l22 k p mo w l bg ((j : Int) * t.f6 + x) t) v
  | 0, x, w, l, h0, h1, hw, hx, hv => by
    cases bg
    · simpa using hv
    · have e : max l w = l := by omega
      simpa [e] using hv
  | d + 1, x, w, l, h0, h1, hw, hx, hv => by
    have hjm : 0 ≤ (j : Int) * t.f6 ∧ (j : Int) * t.f6 ≤ 2 * t.f6 := by
      obtain ⟨g1, g2, g3, g4⟩ := sound_spans hb
      have hm := g1.major
      have : j = 0 ∨ j = 1 ∨ j = 2 := by omega
      rcases this with e | e | e <;> subst e <;> simp <;> omega
    have hne := hx x (by omega) (by omega)
    refine cycle_ev hb hsm hnm hp mo w l _ bg (by omega) (by omega) (by omega) v ?_
    rw [tmod_frame hb hsm hnm hp j h0 (by omega), if_neg hne, if_neg hne, decide_eq_false hne, Bool.or_false, Int.add_assoc]
    cases bg
    · simp only [Bool.false_eq_true, if_false] at hv ⊢
      refine idle_ev j hj v false d (x + 1) w l (by omega) (by omega) (by omega) (fun y h2 h3 => hx y (by omega) (by omega)) ?_
      simp only [Bool.false_eq_true, if_false]
      rw [show x + 1 + (d : Int) = x + ((d + 1 : Nat) : Int) by omega]
      exact hv
    · simp only [if_true] at hv ⊢
      refine idle_ev j hj v true d (x + 1) (w + 1) (max l (w + 1)) (by omega) (by omega) (by omega) (fun y h2 h3 => hx y (by omega) (by omega)) ?_
      simp only [if_true]
      rw [show x + 1 + (d : Int) = x + ((d + 1 : Nat) : Int) by omega, show w + 1 + (d : Int) = w + ((d + 1 : Nat) : Int) by omega, show max (max l (w + 1)) (w + ((d + 1 : Nat) : Int)) = max l (w + ((d + 1 : Nat) : Int)) by omega]
      exact hv
/-- Cycles at which it may. -/
theorem run_ev (j : Nat) (hj : j ≤ 2) (v : Bool) (l : Int) (hl : 0 ≤ l ∧ l ≤ 20000) : ∀ (d : Nat) (x w : Int) (bg : Bool), 0 ≤ x → x + (d + 1 : Nat) ≤ t.f6 → (0 ≤ w ∧ w ≤ l) → (∀ y, x ≤ y → y < x + (d + 1 : Nat) → beginV t y = p) →
    Ev (fun k => laws_FnLatency.l22 k p mo 0 l true ((j : Int) * t.f6 + (x + (d + 1 : Nat))) t) v → Ev (fun k => laws_FnLatency.l22 k p mo w l bg ((j : Int) * t.f6 + x) t) v := by
  intro d
  induction d with
  | zero =>
    intro x w bg h0 h1 hw hx hv
    have hjm : 0 ≤ (j : Int) * t.f6 ∧ (j : Int) * t.f6 ≤ 2 * t.f6 := by
      obtain ⟨g1, g2, g3, g4⟩ := sound_spans hb
      have hm := g1.major
      have : j = 0 ∨ j = 1 ∨ j = 2 := by omega
      rcases this with e | e | e <;> subst e <;> simp <;> omega
    have he := hx x (by omega) (by omega)
    refine cycle_ev hb hsm hnm hp mo w l _ bg (by omega) (by omega) (by omega) v ?_
    rw [tmod_frame hb hsm hnm hp j h0 (by omega), if_pos he, if_pos he, decide_eq_true he, Bool.or_true, Int.add_assoc]
    exact hv
  | succ d ih =>
    intro x w bg h0 h1 hw hx hv
    have hjm : 0 ≤ (j : Int) * t.f6 ∧ (j : Int) * t.f6 ≤ 2 * t.f6 := by
      obtain ⟨g1, g2, g3, g4⟩ := sound_spans hb
      have hm := g1.major
      have : j = 0 ∨ j = 1 ∨ j = 2 := by omega
      rcases this with e | e | e <;> subst e <;> simp <;> omega
    have he := hx x (by omega) (by omega)
    refine cycle_ev hb hsm hnm hp mo w l _ bg (by omega) (by omega) (by omega) v ?_
    rw [tmod_frame hb hsm hnm hp j h0 (by omega), if_pos he, if_pos he, decide_eq_true he, Bool.or_true, Int.add_assoc]
    refine ih (x + 1) 0 true (by omega) (by omega) (by omega) (fun y h2 h3 => hx y (by omega) (by omega)) ?_
    rw [show x + 1 + ((d + 1 : Nat) : Int) = x + ((d + 1 + 1 : Nat) : Int) by omega]
    exact hv

/-- The law's numbers at cycle x of a frame, told by the program's. -/
def wt (bg : Bool) (W f e x : Int) : Int := if f < 0 then (if bg = true then W + x else 0) else x - e
def ln (bg : Bool) (W L f e m x : Int) : Int := if f < 0 then (if bg = true then max L (W + x) else L) else max (max L (if bg = true then W + f else 0)) (max m (x - e))

theorem idle_st (j : Nat) (hj : j ≤ 2) (v : Bool) (bg : Bool) (W L f e m x y : Int) (hW : 0 ≤ W ∧ W ≤ 5000) (hL : 0 ≤ L ∧ L ≤ 10000) (hI : LatI f e m x) (h0 : 0 ≤ x) (hxy : x ≤ y) (hy : y ≤ t.f6) (hx : ∀ z, x ≤ z → z < y → beginV t z ≠ p)
    (hv : Ev (fun k => laws_FnLatency.l22 k p mo (wt bg W f e y) (ln bg W L f e m y) (bg || decide (0 ≤ f)) ((j : Int) * t.f6 + y) t) v) :
    Ev (fun k => laws_FnLatency.l22 k p mo (wt bg W f e x) (ln bg W L f e m x) (bg || decide (0 ≤ f)) ((j : Int) * t.f6 + x) t) v := by
  obtain ⟨g1, g2, g3, g4⟩ := sound_spans hb
  have hm := g1.major
  by_cases hf : f < 0
  · obtain ⟨k1, k2⟩ := hI.none hf
    simp only [wt, ln, if_pos hf, decide_eq_false (show ¬ 0 ≤ f by omega), Bool.or_false] at hv ⊢
    refine idle_ev hb hsm hnm hp mo j hj v bg (y - x).toNat x _ _ h0 (by omega) ?_ (fun z h1 h2 => hx z h1 (by omega)) ?_
    · cases bg
      · simp; omega
      · simp; omega
    · rw [show x + ((y - x).toNat : Int) = y by omega]
      cases bg
      · simpa using hv
      · simp only [if_true] at hv ⊢
        rw [show W + x + ((y - x).toNat : Int) = W + y by omega, show max (max L (W + x)) (W + y) = max L (W + y) by omega]
        exact hv
  · obtain ⟨k1, k2, k3, k4, k5⟩ := hI.some (by omega)
    simp only [wt, ln, if_neg hf, decide_eq_true (show 0 ≤ f by omega), Bool.or_true] at hv ⊢
    have hg : 0 ≤ (if bg = true then W + f else 0) ∧ (if bg = true then W + f else 0) ≤ 10000 := by split <;> omega
    generalize (if bg = true then W + f else 0) = g at hv hg ⊢
    refine idle_ev hb hsm hnm hp mo j hj v true (y - x).toNat x _ _ h0 (by omega) (by omega) (fun z h1 h2 => hx z h1 (by omega)) ?_
    simp only [if_true]
    rw [show x + ((y - x).toNat : Int) = y by omega, show x - e + ((y - x).toNat : Int) = y - e by omega, show max (max (max L g) (max m (x - e))) (y - e) = max (max L g) (max m (y - e)) by omega]
    exact hv

theorem frame_ev (j : Nat) (hj : j ≤ 2) (v : Bool) (bg : Bool) (W L : Int) (hW : 0 ≤ W ∧ W ≤ 5000) (hL : 0 ≤ L ∧ L ≤ 10000) : ∀ (n i : Nat) (fin f e m : Int), i + n = t.f10.length → 0 ≤ fin → fin ≤ t.f6 → (∀ x ∈ t.f10.take i, 0 ≤ x.f1 ∧ 0 ≤ x.f2 ∧ x.f1 + x.f2 ≤ fin) → slotsL t (t.f10.drop i) fin = true → LatI f e m fin →
    (∀ r, latS t p (t.f10.drop i) f e m = r → Ev (fun k => laws_FnLatency.l22 k p mo (wt bg W r.1 r.2.1 t.f6) (ln bg W L r.1 r.2.1 r.2.2 t.f6) (bg || decide (0 ≤ r.1)) ((j : Int) * t.f6 + t.f6) t) v) →
    Ev (fun k => laws_FnLatency.l22 k p mo (wt bg W f e fin) (ln bg W L f e m fin) (bg || decide (0 ≤ f)) ((j : Int) * t.f6 + fin) t) v
  | 0, i, fin, f, e, m, hi, h0, h1, he, hs, hI, hv => by
    obtain ⟨g1, g2, g3, g4⟩ := sound_spans hb
    have hm := g1.major
    refine idle_st hb hsm hnm hp mo j hj v bg W L f e m fin t.f6 hW hL hI h0 h1 (Int.le_refl _) (fun z q1 q2 => ?_) ?_
    · have := slotB_gap g1 i fin z (by omega) h0 he hs (by omega) q1 (fun s l hd => by
        have hl := congrArg List.length hd
        rw [List.length_drop, List.length_cons] at hl
        omega)
      have hph : phaseV t z = 0 := by rw [phaseV, this, if_pos (by omega)]
      rw [beginV, hph, if_neg (by omega)]
      omega
    · exact hv (f, e, m) (by rw [List.drop_eq_nil_of_le (by omega)]; rfl)
  | n + 1, i, fin, f, e, m, hi, h0, h1, he, hs, hI, hv => by
    obtain ⟨ht, g2', g3, g4⟩ := sound_spans hb
    have hpd := ht.pad; have hgd := ht.guard; have hm := ht.major
    have hlt : i < t.f10.length := by omega
    have hcy := cycles ht i fin hlt h0 (by omega) he hs
    have hsd := Ev.drop_getD t.f10 z61 i hlt
    rw [hsd] at hs hv
    obtain ⟨g1, g2⟩ := slotsL_cons hs
    have htk := take_succ_getD z61 t.f10 i hlt
    have ih := fun fin f e m => frame_ev j hj v bg W L hW hL n (i + 1) fin f e m (by omega)
    have q2 := g1.lo
    have q3 := g1.len
    have q4 := g1.hi
    obtain ⟨o1, o2⟩ := hI.own ht g1 h0
    have o3 := hI.more ht g1
    generalize hx : t.f10.getD i z61 = s at *
    have he' : ∀ x ∈ t.f10.take (i + 1), 0 ≤ x.f1 ∧ 0 ≤ x.f2 ∧ x.f1 + x.f2 ≤ s.f1 + s.f2 := by
      intro x hxm
      rw [htk] at hxm
      rcases List.mem_append.1 hxm with h | h
      · have := he x h; omega
      · rw [List.mem_singleton] at h
        subst h
        omega
    have hpre : ∀ x, fin ≤ x → x < s.f1 + t.f4 → beginV t x ≠ p := by
      intro x w1 w2
      by_cases hl : x < s.f1
      · rw [beginV, hcy.idle x w1 hl, if_neg (by omega)]; omega
      · rw [beginV, hcy.pad x (by omega) w2, if_neg (by omega)]; omega
    have hpost : ∀ x, s.f1 + s.f2 - t.f5 ≤ x → x < s.f1 + s.f2 → beginV t x ≠ p := by
      intro x w1 w2
      rw [beginV, hcy.guard x w1 w2, if_neg (by omega)]; omega
    by_cases hsp : s.f0 = p
    · -- its own slot
      obtain ⟨d, hd⟩ : ∃ d : Nat, s.f1 + t.f4 + ((d + 1 : Nat) : Int) = s.f1 + s.f2 - t.f5 := ⟨(s.f2 - t.f5 - t.f4 - 1).toNat, by omega⟩
      have hI0 : LatI f e m (s.f1 + t.f4) := ⟨hI.none, fun hf => by obtain ⟨k1, k2, k3, k4, k5⟩ := hI.some hf; omega⟩
      refine idle_st hb hsm hnm hp mo j hj v bg W L f e m fin (s.f1 + t.f4) hW hL hI h0 (by omega) (by omega) hpre ?_
      have hwl : 0 ≤ wt bg W f e (s.f1 + t.f4) ∧ wt bg W f e (s.f1 + t.f4) ≤ ln bg W L f e m (s.f1 + t.f4) ∧ 0 ≤ ln bg W L f e m (s.f1 + t.f4) ∧ ln bg W L f e m (s.f1 + t.f4) ≤ 15000 := by
        unfold wt ln
        by_cases hf : f < 0
        · rw [if_pos hf, if_pos hf]
          cases bg
          · simp; omega
          · simp; omega
        · obtain ⟨k1, k2, k3, k4, k5⟩ := hI.some (by omega)
          rw [if_neg hf, if_neg hf]
          split <;> omega
      refine run_ev hb hsm hnm hp mo j hj v _ ⟨hwl.2.2.1, by omega⟩ d (s.f1 + t.f4) _ _ (by omega) (by omega) ⟨hwl.1, hwl.2.1⟩ (fun y w1 w2 => (hcy.who y w1 (by omega)).trans hsp) ?_
      rw [hd]
      have hpl := ht.pad
      -- behind it
      by_cases hf : f < 0
      · obtain ⟨k1, k2⟩ := hI.none hf
        have hrec := ih (s.f1 + s.f2) (s.f1 + t.f4) (s.f1 + s.f2 - t.f5) m (by omega) q4 he' g2 (o1 hf) (fun r hr => hv r (by rw [← hr, latS, if_pos hsp, if_pos hf]))
        have e0 : (0 : Int) = wt bg W (s.f1 + t.f4) (s.f1 + s.f2 - t.f5) (s.f1 + s.f2 - t.f5) := by unfold wt; rw [if_neg (show ¬ s.f1 + t.f4 < 0 by omega)]; omega
        have e1 : ln bg W L f e m (s.f1 + t.f4) = ln bg W L (s.f1 + t.f4) (s.f1 + s.f2 - t.f5) m (s.f1 + s.f2 - t.f5) := by
          unfold ln
          rw [if_pos hf, if_neg (show ¬ s.f1 + t.f4 < 0 by omega)]
          cases bg
          · simp only [Bool.false_eq_true, if_false]; omega
          · simp only [if_true]; omega
        have e2 : true = (bg || decide (0 ≤ s.f1 + t.f4)) := by rw [decide_eq_true (by omega), Bool.or_true]
        rw [e1]
        have := idle_st hb hsm hnm hp mo j hj v bg W L (s.f1 + t.f4) (s.f1 + s.f2 - t.f5) m (s.f1 + s.f2 - t.f5) (s.f1 + s.f2) hW hL ⟨fun h => absurd h (by omega), fun _ => by omega⟩ (by omega) (by omega) (by omega) hpost hrec
        rw [← e0, ← e2] at this
        exact this
      · obtain ⟨k1, k2, k3, k4, k5⟩ := hI.some (by omega)
        have hrec := ih (s.f1 + s.f2) f (s.f1 + s.f2 - t.f5) (max m (s.f1 + t.f4 - e)) (by omega) q4 he' g2 (o2 (by omega)) (fun r hr => hv r (by rw [← hr, latS, if_pos hsp, if_neg hf]))
        have e0 : (0 : Int) = wt bg W f (s.f1 + s.f2 - t.f5) (s.f1 + s.f2 - t.f5) := by unfold wt; rw [if_neg (by omega)]; omega
        have e1 : ln bg W L f e m (s.f1 + t.f4) = ln bg W L f (s.f1 + s.f2 - t.f5) (max m (s.f1 + t.f4 - e)) (s.f1 + s.f2 - t.f5) := by
          unfold ln
          rw [if_neg hf, if_neg hf]
          split <;> omega
        have e2 : true = (bg || decide (0 ≤ f)) := by rw [decide_eq_true (by omega), Bool.or_true]
        rw [e1]
        have := idle_st hb hsm hnm hp mo j hj v bg W L f (s.f1 + s.f2 - t.f5) (max m (s.f1 + t.f4 - e)) (s.f1 + s.f2 - t.f5) (s.f1 + s.f2) hW hL ⟨fun h => absurd h (by omega), fun _ => by omega⟩ (by omega) (by omega) (by omega) hpost hrec
        rw [← e0, ← e2] at this
        exact this
    · refine idle_st hb hsm hnm hp mo j hj v bg W L f e m fin (s.f1 + s.f2) hW hL hI h0 (by omega) q4 (fun x w1 w2 => ?_) ?_
      · by_cases c1 : x < s.f1 + t.f4
        · exact hpre x w1 c1
        · by_cases c2 : x < s.f1 + s.f2 - t.f5
          · rw [hcy.who x (by omega) c2]; exact hsp
          · exact hpost x (by omega) w2
      · exact ih (s.f1 + s.f2) f e m (by omega) q4 he' g2 o3 (fun r hr => hv r (by rw [← hr, latS, if_neg hsp]))

/-- Three frames. -/
theorem three_ev (hown : ¬ (latS t p t.f10 (-1) 0 (-1)).1 < 0) : Ev (fun k => laws_FnLatency.l22 k p (latEnd t (latS t p t.f10 (-1) 0 (-1))) 0 0 false 0 t) true := by
  obtain ⟨ht, g2, g3, g4⟩ := sound_spans hb
  have hm := ht.major
  have hI0 : LatI (-1) 0 (-1) 0 := ⟨fun _ => ⟨rfl, rfl⟩, fun h => absurd h (by omega)⟩
  have hend := latS_in ht (p := p) t.f10 (-1) 0 (-1) 0 g2 (by omega) (by omega) hI0
  have fr := fun j hj bg W L hW hL => frame_ev hb hsm hnm hp (latEnd t (latS t p t.f10 (-1) 0 (-1))) j hj true bg W L hW hL t.f10.length 0 0 (-1) 0 (-1) (by omega) (by omega) (by omega) (by simp) (by simpa using g2) hI0
  simp only [List.drop_zero] at fr
  generalize hr : latS t p t.f10 (-1) 0 (-1) = r at *
  obtain ⟨f, e, m⟩ := r
  simp only at hown hend fr
  obtain ⟨k1, k2, k3, k4, k5⟩ := hend.some (by omega)
  have hmo : latEnd t (f, e, m) = max m (f + t.f6 - e) := by
    show (if f < 0 then -1 else mx m (f + t.f6 - e)) = _
    rw [if_neg hown]
    unfold mx; split <;> omega
  -- frame 0
  have f0 := fr 0 (by omega) false 0 0 (by omega) (by omega) (fun r' h' => ?_)
  · simpa [wt, ln] using f0
  subst h'
  have e1 : wt false 0 f e t.f6 = t.f6 - e := by unfold wt; rw [if_neg hown]
  have e2 : ln false 0 0 f e m t.f6 = max 0 (max m (t.f6 - e)) := by unfold ln; rw [if_neg hown]; simp
  rw [e1, e2, decide_eq_true (by omega : 0 ≤ f), Bool.or_true]
  have f1 := fr 1 (by omega) true (t.f6 - e) (max 0 (max m (t.f6 - e))) (by omega) (by omega) (fun r' h' => ?_)
  · have a1 : wt true (t.f6 - e) (-1) 0 0 = t.f6 - e := by unfold wt; rw [if_pos (by omega)]; simp
    have a2 : ln true (t.f6 - e) (max 0 (max m (t.f6 - e))) (-1) 0 (-1) 0 = max 0 (max m (t.f6 - e)) := by unfold ln; rw [if_pos (by omega)]; simp only [if_true]; omega
    rw [a1, a2] at f1
    simpa using f1
  subst h'
  have e3 : wt true (t.f6 - e) f e t.f6 = t.f6 - e := by unfold wt; rw [if_neg hown]
  have e4 : ln true (t.f6 - e) (max 0 (max m (t.f6 - e))) f e m t.f6 = max m (f + t.f6 - e) := by unfold ln; rw [if_neg hown]; simp; omega
  rw [e3, e4, Bool.true_or]
  have f2 := fr 2 (by omega) true (t.f6 - e) (max m (f + t.f6 - e)) (by omega) (by omega) (fun r' h' => ?_)
  · have a1 : wt true (t.f6 - e) (-1) 0 0 = t.f6 - e := by unfold wt; rw [if_pos (by omega)]; simp
    have a2 : ln true (t.f6 - e) (max m (f + t.f6 - e)) (-1) 0 (-1) 0 = max m (f + t.f6 - e) := by unfold ln; rw [if_pos (by omega)]; simp; omega
    rw [a1, a2] at f2
    rw [show ((1 : Nat) : Int) * t.f6 + t.f6 = ((2 : Nat) : Int) * t.f6 + 0 by omega]
    simpa using f2
  subst h'
  have e5 : ln true (t.f6 - e) (max m (f + t.f6 - e)) f e m t.f6 = max m (f + t.f6 - e) := by unfold ln; rw [if_neg hown]; simp; omega
  rw [e3, e5, Bool.true_or, hmo]
  refine Ev.step ?_
  simp only [laws_FnLatency.l22]
  rw [wrap_of (a := 3 * t.f6) (by omega) (by omega)]
  exact Ev.ite_neg (by omega) (Ev.cast (Ev.ret _) (by simp))
end

/-! ### The law -/
theorem draw_out (code : List Int) (h : code.length ≤ 1048576) : Out (fun t => ∃ n, 2 ≤ n ∧ n ≤ 4 ∧ Tabs n t) (fun k => spec_DrawTables.f k code) := by
  unfold spec_DrawTables.f
  refine Out.bind (new_out code (by omega)) fun y hy => Out.bind (below_out hy (n := 3) (by omega)) fun z hz => ?_
  have hz1 := hz.1
  rw [wrap_of (a := 2 + z.1) (by omega) (by omega)]
  exact Out.bind (tables_out (n := 2 + z.1) (by omega) hz.2) fun u hu => Out.ret ⟨2 + z.1, by omega, by omega, hu.1⟩
theorem Tabs.names {n : Int} {t : S33} (h : Tabs n t) (hn : n ≤ 6) : ∀ x ∈ t.f7, x.f0.size ≤ 9223372036854775807 := by
  intro x hx
  obtain ⟨e, hr⟩ := h.rows
  have hp := h.parts
  obtain ⟨i, hi, rfl⟩ := List.getElem_of_mem hx
  have h1 := hr.name i hi
  have h2 : t.f7.getD i z101 = t.f7[i] := by rw [List.getD_eq_getElem?_getD, List.getElem?_eq_getElem hi]; rfl
  rw [h2] at h1
  have h3 := nms_ok i (List.mem_range.2 (by omega))
  rw [Bool.and_eq_true, decide_eq_true_eq] at h3
  rw [h1]
  omega
theorem Tabs.small {n : Int} {t : S33} (h : Tabs n t) (hn : n ≤ 6) : Small t := by
  obtain ⟨e, hr⟩ := h.rows
  have h1 := h.parts; have h2 := h.slots; have h3 := h.devs; have h4 := h.chans
  exact ⟨by omega, fun x hx => by have := (hr.part x hx).2.1; omega, by omega, by omega, by omega⟩
theorem at_some (code : List Int) (hc : ∀ x ∈ code, 0 ≤ x ∧ x ≤ 255) (h : code.length ≤ 1048576) (i : Int) (hi : 0 ≤ i ∧ i ≤ 1000) : ∃ x, laws_at.f code i = some x ∧ 0 ≤ x ∧ x ≤ 255 := by
  unfold laws_at.f
  by_cases c : i < (code.length : Int)
  · have := hc (rd code i) (getD_mem (z := (0 : Int)) (by omega))
    exact ⟨rd code i, by rw [if_pos c, if_pos hi.1, if_pos c, wrap_of (by omega) (by omega)], this⟩
  · refine ⟨Int.tmod (wrap64 (wrap64 (i * 7) + (code.length : Int))) 256, by rw [if_neg c], ?_⟩
    rw [wrap_of (a := i * 7) (by omega) (by omega), wrap_of (by omega) (by omega), Int.tmod_eq_emod_of_nonneg (by omega)]
    omega
theorem bytes_in {code : List Int} (h : Fits (.sl (.int .u8)) code) : ∀ x ∈ code, 0 ≤ x ∧ x ≤ 255 := fun x hx => by
  have h1 : (Lit.int .u8 x).wf = true := h.2 x hx
  simp only [Lit.wf, Bool.and_eq_true, decide_eq_true_eq] at h1
  have e1 : IntKind.min .u8 = 0 := by decide
  have e2 : IntKind.max .u8 = 255 := by decide
  omega

theorem pure_FnLatency : ∀ (x0 : (Ty.sl (.int .u8)).den), Fits (.sl (.int .u8)) x0 → ∃ k, laws_FnLatency.c.fn k (x0, ()) () = some true := by
  intro code hf
  refine Ev.get (g := fun k => laws_FnLatency.f k code) ?_
  unfold laws_FnLatency.f laws_big.f
  simp only [Option.bind_some]
  refine Ev.ite_both (fun _ => Ev.ret _) fun hbig => ?_
  have hlen : code.length ≤ 1048576 := by
    have : ¬ (code.length : Int) > 1048576 := by simpa using hbig
    omega
  obtain ⟨t, hd, n, h2, h4, htab⟩ := draw_out code hlen
  obtain ⟨a, ha, ha0, ha1⟩ := at_some code (bytes_in hf) hlen 1 (by omega)
  refine Ev.bind hd ?_
  simp only [ha, Option.bind_some]
  have hpn := htab.parts
  have hsm := htab.small (by omega)
  have hnm := htab.names (by omega)
  have hb := htab.sound
  have hp0 : 0 ≤ a.tmod (t.f7.length : Int) := Int.tmod_nonneg _ ha0
  generalize a.tmod (t.f7.length : Int) = p at hp0
  obtain ⟨ht, g2, g3, g4⟩ := sound_spans hb
  have hm := ht.major
  obtain ⟨v, hv1, hv2⟩ := share_l ht g3 p t.f10.length 0 0 0 (-1) 0 (-1) (by omega) (by omega) (by omega) (by simpa using g2) (by omega) (by omega) (by omega) (by omega)
  simp only [List.drop_zero] at hv1 hv2
  refine Ev.ite_neg (by omega) (Ev.bind (a := latEnd t (latS t p t.f10 (-1) 0 (-1))) ?_ (Ev.bind (a := v) ?_ ?_))
  · unfold impl_Latency.f
    exact Ev.bind (Ev.cast (implSound t hsm hnm) hb) (Ev.ite_pos rfl (Ev.bind (implLat hb p) (Ev.ret _)))
  · unfold spec_ShareOf.f
    exact Ev.bind (Ev.cast (specSound t hsm hnm) hb) (Ev.ite_pos rfl hv1)
  · by_cases hv : v = 0
    · have := hv2.2 hv
      refine Ev.ite_pos hv (Ev.cast (Ev.ret _) ?_)
      rw [decide_eq_true_eq, latEnd, if_pos this]
    · exact Ev.ite_neg hv (three_ev hb hsm hnm hp0 (fun h => hv (hv2.1 h)))
end Go.Proofs.Ytfmbebgpbgcpeaa.PDr
