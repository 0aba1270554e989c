/- Plain Lean over the printed functions: both Latency come to the same, and so the law's function answers true. -/
import Derived.Test.YtebjmogdananjaaB7
set_option linter.unusedVariables false
set_option linter.unusedSimpArgs false
namespace Go.Proofs.Ytebjmogdananjaa.PAll
open Go Go.RowKit Go.Proofs.Ytebjmogdananjaa.A Go.Proofs.Ytebjmogdananjaa.B

theorem lat_skip {t : S33} (hS : t.f10.length ≤ 1048576) (hm : 1 ≤ t.f6 ∧ t.f6 ≤ 5000) (p last first most v : Int) : ∀ (d : Nat) (c : Int), 0 ≤ c → c + d ≤ t.f6 → (∀ x, c ≤ x → x < c + d → beginV t x ≠ p ∨ p < 0) →
    Ev (fun k => spec_Latency.l10 k p last first most (c + d) t) v → Ev (fun k => spec_Latency.l10 k p last first most c t) v
  | 0, c, h0, h1, hx, hv => by simpa using hv
  | d + 1, c, h0, h1, hx, hv => by
    have hn : wrap64 (c + 1) = c + 1 := wrap_of (by omega) (by omega)
    have hv' := lat_skip hS hm p last first most v d (c + 1) (by omega) (by omega) (fun x q1 q2 => hx x (by omega) (by omega)) (by rw [show c + 1 + (d : Int) = c + ((d + 1 : Nat) : Int) by omega]; exact hv)
    refine Ev.step ?_
    simp only [spec_Latency.l10, hn]
    refine Ev.ite_pos (by omega) (Ev.bind (begin_ev t hS (by omega) c) ?_)
    rw [Int.tmod_eq_of_lt h0 (by omega)]
    by_cases hq : beginV t c = p
    · refine Ev.ite_pos hq (Ev.ite_pos ?_ hv')
      rcases hx c (by omega) (by omega) with h | h
      · exact absurd hq h
      · exact h
    · exact Ev.ite_neg hq hv'
theorem lat_run {t : S33} (hS : t.f10.length ≤ 1048576) (hm : 1 ≤ t.f6 ∧ t.f6 ≤ 5000) (p first most v : Int) (hp : 0 ≤ p) (hf : 0 ≤ first) (hmo : 0 ≤ most) : ∀ (d : Nat) (c : Int), 0 ≤ c → c + d ≤ t.f6 → (∀ x, c ≤ x → x < c + d → beginV t x = p) →
    Ev (fun k => spec_Latency.l10 k p (c + d - 1) first most (c + d) t) v → Ev (fun k => spec_Latency.l10 k p (c - 1) first most c t) v
  | 0, c, h0, h1, hx, hv => by simpa using hv
  | d + 1, c, h0, h1, hx, hv => by
    have hn : wrap64 (c + 1) = c + 1 := wrap_of (by omega) (by omega)
    have hv' := lat_run hS hm p first most v hp hf hmo d (c + 1) (by omega) (by omega) (fun x q1 q2 => hx x (by omega) (by omega)) (by rw [show c + 1 + (d : Int) = c + ((d + 1 : Nat) : Int) by omega]; exact hv)
    rw [show c + 1 - 1 = c by omega] at hv'
    have e1 : wrap64 (wrap64 (c - (c - 1)) - 1) = 0 := by unfold wrap64; omega
    refine Ev.step ?_
    simp only [spec_Latency.l10, hn, e1]
    refine Ev.ite_pos (by omega) (Ev.bind (begin_ev t hS (by omega) c) ?_)
    rw [Int.tmod_eq_of_lt h0 (by omega), hx c (by omega) (by omega)]
    exact Ev.ite_pos rfl (Ev.ite_neg (by omega) (Ev.ite_neg (by omega) (Ev.ite_neg (by omega) hv')))
theorem lat_window {t : S33} (hS : t.f10.length ≤ 1048576) (hm : 1 ≤ t.f6 ∧ t.f6 ≤ 5000) (p last first most v : Int) (hp : 0 ≤ p) (hmo : 0 ≤ most) (hmo2 : most ≤ 5000) (hl : -1 ≤ last) (d : Nat) (c : Int) (h0 : 0 ≤ c) (h1 : c + (d + 1 : Nat) ≤ t.f6) (hlc : last < c) (hx : ∀ x, c ≤ x → x < c + (d + 1 : Nat) → beginV t x = p)
    (hv : Ev (fun k => spec_Latency.l10 k p (c + (d + 1 : Nat) - 1) (if first < 0 then c else first) (if first < 0 then most else max most (c - last - 1)) (c + (d + 1 : Nat)) t) v) :
    Ev (fun k => spec_Latency.l10 k p last first most c t) v := by
  have hn : wrap64 (c + 1) = c + 1 := wrap_of (by omega) (by omega)
  have hr := lat_run hS hm p (if first < 0 then c else first) (if first < 0 then most else max most (c - last - 1)) v hp (by split <;> omega) (by split <;> omega) d (c + 1) (by omega) (by omega) (fun x q1 q2 => hx x (by omega) (by omega)) (by rw [show c + 1 + (d : Int) = c + ((d + 1 : Nat) : Int) by omega]; exact hv)
  rw [show c + 1 - 1 = c by omega] at hr
  have e1 : wrap64 (wrap64 (c - last) - 1) = c - last - 1 := by rw [wrap_of (a := c - last) (by omega) (by omega), wrap_of (by omega) (by omega)]
  refine Ev.step ?_
  simp only [spec_Latency.l10, hn, e1]
  refine Ev.ite_pos (by omega) (Ev.bind (begin_ev t hS (by omega) c) ?_)
  rw [Int.tmod_eq_of_lt h0 (by omega), hx c (by omega) (by omega)]
  refine Ev.ite_pos rfl (Ev.ite_neg (by omega) ?_)
  by_cases hf : first < 0
  · simp only [if_pos hf] at hr
    exact Ev.ite_pos hf hr
  · simp only [if_neg hf] at hr
    refine Ev.ite_neg hf ?_
    by_cases hg : c - last - 1 > most
    · rw [show max most (c - last - 1) = c - last - 1 by omega] at hr
      exact Ev.ite_pos hg hr
    · rw [show max most (c - last - 1) = most by omega] at hr
      exact Ev.ite_neg hg hr
/-- What the two loops have in common ahead of a slot. -/
structure LatRel (f e m last first most fin : Int) : Prop where
  none : f < 0 → first = -1 ∧ last = -1 ∧ most = 0 ∧ m = -1 ∧ f = -1
  some : 0 ≤ f → first = f ∧ last = e - 1 ∧ most = max m 0 ∧ f ≤ 5000 ∧ 0 ≤ e ∧ e ≤ fin ∧ -1 ≤ m ∧ m ≤ 5000 ∧ e ≤ 5000
theorem lat_slots {t : S33} (ht : SpansIn t) (hS : t.f10.length ≤ 16) (p : Int) (hp0 : ∀ s ∈ t.f10, 0 ≤ s.f0) : ∀ (n i : Nat) (fin f e m last first most : Int), i + n = t.f10.length → 0 ≤ fin → fin ≤ t.f6 → (∀ x ∈ t.f10.take i, 0 ≤ x.f1 ∧ 0 ≤ x.f2 ∧ x.f1 + x.f2 ≤ fin) → slotsL t (t.f10.drop i) fin = true → LatRel f e m last first most fin →
    ∃ v, Ev (fun k => impl_latency.l6 k p f e m t.f10 (t.f10.length : Int) (i : Int) t) v ∧ Ev (fun k => spec_Latency.l10 k p last first most fin t) v
  | 0, i, fin, f, e, m, last, first, most, hi, h0, h1, he, hs, hr => by
    have hp' := ht.pad; have hg' := ht.guard; have hm' := ht.major
    have hgap : ∀ x, fin ≤ x → x < fin + ((t.f6 - fin).toNat : Int) → beginV t x ≠ p ∨ p < 0 := by
      intro x q1 q2
      have := slotB_gap ht i fin x (by omega) h0 he hs (by omega) q1 (fun s l hd => by
        have hl := congrArg List.length hd
        rw [List.length_drop, List.length_cons] at hl
        omega)
      have hph : phaseV t x = 0 := by rw [phaseV, this, if_pos (by omega)]
      rw [beginV, hph, if_neg (by omega)]
      omega
    have spec : ∀ v, Ev (fun k => spec_Latency.l10 k p last first most t.f6 t) v → Ev (fun k => spec_Latency.l10 k p last first most fin t) v := fun v h => by
      refine lat_skip (by omega) hm' p last first most v (t.f6 - fin).toNat fin h0 (by omega) hgap ?_
      rw [show fin + ((t.f6 - fin).toNat : Int) = t.f6 by omega]
      exact h
    by_cases hf : f < 0
    · obtain ⟨r1, r2, r3, r4, r5⟩ := hr.none hf
      refine ⟨-1, Ev.step ?_, spec _ (Ev.step ?_)⟩
      · simp only [impl_latency.l6]
        exact Ev.ite_neg (by omega) (Ev.ite_pos hf (Ev.ret _))
      · simp only [spec_Latency.l10]
        exact Ev.ite_neg (by omega) (Ev.ite_pos (by omega) (Ev.ret _))
    · obtain ⟨r1, r2, r3, r4, r5, r6, r7, r8, r9⟩ := hr.some (by omega)
      refine ⟨mx m (f + t.f6 - e), Ev.step ?_, spec _ (Ev.step ?_)⟩
      · simp only [impl_latency.l6]
        refine Ev.ite_neg (by omega) (Ev.ite_neg hf ?_)
        rw [wrap_of (a := f + t.f6) (by omega) (by omega), wrap_of (by omega) (by omega)]
        exact Ev.ret _
      · simp only [spec_Latency.l10]
        refine Ev.ite_neg (by omega) (Ev.ite_neg (by omega) ?_)
        rw [r1, r2, wrap_of (a := t.f6 - 1) (by omega) (by omega), wrap_of (a := t.f6 - 1 - (e - 1)) (by omega) (by omega), wrap_of (by omega) (by omega)]
        by_cases hq : t.f6 - 1 - (e - 1) + f > most
        · refine Ev.ite_pos hq (Ev.cast (Ev.ret _) ?_)
          unfold mx
          split <;> omega
        · refine Ev.ite_neg hq (Ev.cast (Ev.ret _) ?_)
          unfold mx
          split <;> omega
  | n + 1, i, fin, f, e, m, last, first, most, hi, h0, h1, he, hs, hr => by
    have hp' := ht.pad; have hg' := ht.guard; have hm' := ht.major
    have hlt : i < t.f10.length := by omega
    have hcy := cycles ht i fin hlt h0 (by omega) he hs
    have hsd := Ev.drop_getD t.f10 z44 i hlt
    rw [hsd] at hs
    obtain ⟨g1, g2⟩ := slotsL_cons hs
    have htk := take_succ_getD z44 t.f10 i hlt
    have hr0 : rd_T44 t.f10 (i : Int) = t.f10.getD i z44 := rfl
    have hs0 := hp0 _ (getD_mem (z := z44) hlt)
    have ih := fun fin f e m last first most => lat_slots ht hS p hp0 n (i + 1) fin f e m last first most (by omega)
    have q2 := g1.lo
    have q3 := g1.len
    have q4 := g1.hi
    generalize hx : t.f10.getD i z44 = s at *
    have e1 : wrap64 (s.f1 + t.f4) = s.f1 + t.f4 := wrap_of (by omega) (by omega)
    have e2 : wrap64 (wrap64 (s.f1 + s.f2) - t.f5) = s.f1 + s.f2 - t.f5 := by rw [wrap_of (a := s.f1 + s.f2) (by omega) (by omega), wrap_of (by omega) (by omega)]
    have he' : ∀ x ∈ t.f10.take (i + 1), 0 ≤ x.f1 ∧ 0 ≤ x.f2 ∧ x.f1 + x.f2 ≤ s.f1 + s.f2 := by
      intro x hxm
      rw [htk] at hxm
      rcases List.mem_append.1 hxm with h | h
      · have := he x h; omega
      · rw [List.mem_singleton] at h
        subst h
        omega
    have hpre : ∀ x, fin ≤ x → x < s.f1 + t.f4 → beginV t x = -1 := by
      intro x w1 w2
      by_cases hl : x < s.f1
      · rw [beginV, hcy.idle x w1 hl, if_neg (by omega)]
      · rw [beginV, hcy.pad x (by omega) w2, if_neg (by omega)]
    have hpost : ∀ x, s.f1 + s.f2 - t.f5 ≤ x → x < s.f1 + s.f2 → beginV t x = -1 := by
      intro x w1 w2
      rw [beginV, hcy.guard x w1 w2, if_neg (by omega)]
    have first_ : ∀ v, Ev (fun k => spec_Latency.l10 k p last first most (s.f1 + t.f4) t) v → Ev (fun k => spec_Latency.l10 k p last first most fin t) v := fun v h => by
      refine lat_skip (by omega) hm' p last first most v (s.f1 + t.f4 - fin).toNat fin h0 (by omega) (fun x w1 w2 => by rw [hpre x w1 (by omega)]; omega) ?_
      rw [show fin + ((s.f1 + t.f4 - fin).toNat : Int) = s.f1 + t.f4 by omega]
      exact h
    have last_ : ∀ last first most v, Ev (fun k => spec_Latency.l10 k p last first most (s.f1 + s.f2) t) v → Ev (fun k => spec_Latency.l10 k p last first most (s.f1 + s.f2 - t.f5) t) v := by
      intro last first most v hh
      refine lat_skip (by omega) hm' p last first most v t.f5.toNat (s.f1 + s.f2 - t.f5) (by omega) (by omega) (fun x w1 w2 => by rw [hpost x w1 (by omega)]; omega) ?_
      rw [show s.f1 + s.f2 - t.f5 + (t.f5.toNat : Int) = s.f1 + s.f2 by omega]
      exact hh
    by_cases hsp : s.f0 = p
    · obtain ⟨d, hd⟩ : ∃ d : Nat, s.f1 + t.f4 + ((d + 1 : Nat) : Int) = s.f1 + s.f2 - t.f5 := ⟨(s.f2 - t.f5 - t.f4 - 1).toNat, by omega⟩
      have hmo : 0 ≤ most ∧ most ≤ 5000 ∧ -1 ≤ last ∧ last < s.f1 + t.f4 := by
        by_cases hf : f < 0
        · obtain ⟨r1, r2, r3, r4, r5⟩ := hr.none hf; omega
        · obtain ⟨r1, r2, r3, r4, r5, r6, r7, r8, r9⟩ := hr.some (by omega); omega
      have win : ∀ v, Ev (fun k => spec_Latency.l10 k p (s.f1 + s.f2 - t.f5 - 1) (if first < 0 then s.f1 + t.f4 else first) (if first < 0 then most else max most (s.f1 + t.f4 - last - 1)) (s.f1 + s.f2) t) v → Ev (fun k => spec_Latency.l10 k p last first most fin t) v := fun v h => by
        refine first_ v (lat_window (by omega) hm' p last first most v (by omega) hmo.1 hmo.2.1 hmo.2.2.1 d (s.f1 + t.f4) (by omega) (by omega) hmo.2.2.2 (fun x w1 w2 => (hcy.who x w1 (by omega)).trans hsp) ?_)
        rw [hd]
        exact last_ _ _ _ _ h
      by_cases hf : f < 0
      · obtain ⟨r1, r2, r3, r4, r5⟩ := hr.none hf
        obtain ⟨v, hi1, hi2⟩ := ih (s.f1 + s.f2) (s.f1 + t.f4) (s.f1 + s.f2 - t.f5) m (s.f1 + s.f2 - t.f5 - 1) (if first < 0 then s.f1 + t.f4 else first) (if first < 0 then most else max most (s.f1 + t.f4 - last - 1)) (by omega) (by omega) he' g2 ⟨fun hh => absurd hh (by omega), fun _ => ⟨by rw [if_pos (by omega)], rfl, by rw [if_pos (by omega)]; omega, by omega, by omega, by omega, by omega, by omega, by omega⟩⟩
        refine ⟨v, Ev.step ?_, win v hi2⟩
        simp only [impl_latency.l6, hr0, e1, e2, wrap_succ hlt (by omega)]
        exact Ev.ite_pos (lt_in hlt) (Ev.ite_pos ge_0 (Ev.ite_pos (lt_in hlt) (Ev.ite_pos hsp (Ev.ite_pos hf hi1))))
      · obtain ⟨r1, r2, r3, r4, r5, r6, r7, r8, r9⟩ := hr.some (by omega)
        have hmx : mx m (s.f1 + t.f4 - e) = max m (s.f1 + t.f4 - e) := by unfold mx; split <;> omega
        obtain ⟨v, hi1, hi2⟩ := ih (s.f1 + s.f2) f (s.f1 + s.f2 - t.f5) (mx m (s.f1 + t.f4 - e)) (s.f1 + s.f2 - t.f5 - 1) (if first < 0 then s.f1 + t.f4 else first) (if first < 0 then most else max most (s.f1 + t.f4 - last - 1)) (by omega) (by omega) he' g2 ⟨fun hh => absurd hh (by omega), fun _ => ⟨by rw [if_neg (by omega)]; exact r1, rfl, by rw [if_neg (by omega), hmx]; omega, by omega, by omega, by omega, by omega, by omega, by omega⟩⟩
        refine ⟨v, Ev.step ?_, win v hi2⟩
        simp only [impl_latency.l6, hr0, e1, e2, wrap_succ hlt (by omega)]
        rw [wrap_of (a := s.f1 + t.f4 - e) (by omega) (by omega)]
        exact Ev.ite_pos (lt_in hlt) (Ev.ite_pos ge_0 (Ev.ite_pos (lt_in hlt) (Ev.ite_pos hsp (Ev.ite_neg hf hi1))))
    · obtain ⟨v, hi1, hi2⟩ := ih (s.f1 + s.f2) f e m last first most (by omega) (by omega) he' g2 ⟨hr.none, fun hf => by
        obtain ⟨r1, r2, r3, r4, r5, r6, r7, r8, r9⟩ := hr.some hf
        exact ⟨r1, r2, r3, r4, r5, by omega, r7, r8, r9⟩⟩
      refine ⟨v, Ev.step ?_, first_ v ?_⟩
      · simp only [impl_latency.l6, hr0, wrap_succ hlt (by omega)]
        exact Ev.ite_pos (lt_in hlt) (Ev.ite_pos ge_0 (Ev.ite_pos (lt_in hlt) (Ev.ite_neg hsp hi1)))
      · refine lat_skip (by omega) hm' p last first most v (s.f2 - t.f5 - t.f4).toNat (s.f1 + t.f4) (by omega) (by omega) (fun x w1 w2 => by left; rw [hcy.who x w1 (by omega)]; exact hsp) ?_
        rw [show s.f1 + t.f4 + ((s.f2 - t.f5 - t.f4).toNat : Int) = s.f1 + s.f2 - t.f5 by omega]
        exact last_ _ _ _ _ hi2
theorem sound_slots {t : S33} (h : soundB t = true) : SpansIn t ∧ slotsL t t.f10 0 = true ∧ t.f10.length ≤ 16 ∧ 1 ≤ t.f10.length := by
  simp only [soundB, slotsB, Bool.and_eq_true, in_iff] at h
  exact ⟨(head_in h.1).2.2, h.2.2.2.1, by omega, by omega⟩
theorem lat_both (t : S33) (p : Int) (hs : Small t) (hnm : ∀ x ∈ t.f7, x.f0.size ≤ 9223372036854775807) : ∃ v, Ev (fun k => impl_Latency.f k t p) v ∧ Ev (fun k => spec_Latency.f k t p) v := by
  unfold impl_Latency.f spec_Latency.f
  cases hb : soundB t with
  | false =>
    exact ⟨-1, Ev.bind (Ev.cast (implSound t hs hnm) hb) (Ev.ite_neg (by simp) (Ev.ret _)), Ev.bind (Ev.cast (specSound t hs hnm) hb) (Ev.ite_neg (by simp) (Ev.ret _))⟩
  | true =>
    obtain ⟨h1, h2, h3, h4⟩ := sound_slots hb
    obtain ⟨v, hv1, hv2⟩ := lat_slots h1 h3 p (fun s hsm => (in_iff.1 (slotsL_all h1 _ _ h2 s hsm).part).1) t.f10.length 0 0 (-1) 0 (-1) (-1) (-1) 0 (by omega) (by omega) (by have := h1.major; omega) (by simp) h2 ⟨fun _ => ⟨rfl, rfl, rfl, rfl, rfl⟩, fun h => absurd h (by omega)⟩
    refine ⟨v, Ev.bind (Ev.cast (implSound t hs hnm) hb) (Ev.ite_pos rfl (Ev.bind ?_ (Ev.ret _))), Ev.bind (Ev.cast (specSound t hs hnm) hb) (Ev.ite_pos rfl hv2)⟩
    unfold impl_latency.f
    exact hv1
/-- What the sizes say of tables. -/
theorem names_in (t : S66) (h : Fits T66 t) : ∀ x ∈ t.f7, x.f0.size ≤ 9223372036854775807 := fun x hx => by
  have := h.2.2.2.2.2.2.2.1.2 x hx
  have h1 : x.f0.size ≤ maxLen := this.1
  have hm : maxLen ≤ 9223372036854775807 := by unfold maxLen; omega
  omega
theorem pure_FnExactLatency : ∀ (x0 : T66.den) (x1 : Int), Fits T66 x0 → Fits (.int .i64) x1 → ∃ k, laws_FnExactLatency.c.fn k (x0, x1, ()) = some true := by
  intro t p h _
  refine Ev.get (g := fun k => laws_FnExactLatency.f k t p) ?_
  obtain ⟨v, hv, hb⟩ := szTables_ev t h
  unfold laws_FnExactLatency.f
  refine Ev.bind hv ?_
  by_cases c : v < 0
  · exact Ev.ite_pos c (Ev.ret _)
  · have hs := hb (by omega)
    have ht := toTables_ev t hs
    obtain ⟨u, h1, h2⟩ := lat_both t p hs (names_in t h)
    exact Ev.ite_neg c (Ev.bind ht (Ev.bind h2 (Ev.bind ht (Ev.bind h1 (Ev.ite_pos rfl (Ev.bind ht (Ev.bind (eqTables_ev t hs) (Ev.ite_pos rfl (Ev.ret _)))))))))
end Go.Proofs.Ytebjmogdananjaa.PAll
