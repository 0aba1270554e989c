/- Plain Lean over the printed functions: who reaches whom, the reference's. -/
import Derived.Test.YtgagpmiooeoodaaGreatC8
set_option linter.unusedVariables false
set_option linter.unusedSimpArgs false
namespace Go.Proofs.YtgagpmiooeoodaaGreat.PTwo
open Go Go.RowKit Go.Proofs.YtgagpmiooeoodaaGreat.V Go.Proofs.YtgagpmiooeoodaaGreat.C

theorem has_ev (s : List Int) (hs : s.length ≤ 1048576) (x : Int) : Ev (fun k => spec_l20Has.f k s x) (decide (x ∈ s)) := by
  unfold spec_l20Has.f
  have := Ev.list s 0 (fun l (_ : Unit) => l.any fun y => decide (y = x)) (fun _ _ => True) (fun k i _ => spec_l20Has.l4 k s x i) (fun _ _ => Ev.step (by
    simp only [spec_l20Has.l4]; exact Ev.ite_neg (by omega) (Ev.ret _))) (fun i hi _ _ ih => Ev.step (by
    have hr : rd s (i : Int) = s.getD i 0 := rfl
    simp only [spec_l20Has.l4, hr, wrap_succ hi (by omega), List.any_cons]
    refine Ev.ite_pos (lt_in hi) (Ev.ite_pos ge_0 (Ev.ite_pos (lt_in hi) ?_))
    by_cases c : s.getD i 0 = x
    · exact Ev.ite_pos c (Ev.cast (Ev.ret _) (by rw [decide_eq_true c, Bool.true_or]))
    · exact Ev.ite_neg c (Ev.cast (ih () trivial) (by rw [decide_eq_false c, Bool.false_or])))) s.length 0 (by omega) () trivial
  refine Ev.cast this ?_
  rw [List.drop_zero, Bool.eq_iff_iff, List.any_eq_true, decide_eq_true_eq]
  constructor
  · rintro ⟨y, hy, e⟩
    rw [decide_eq_true_eq] at e
    rw [← e]; exact hy
  · intro h
    exact ⟨x, h, by simp⟩
/-- A set of partitions stands for a row of Bools. -/
structure Rel (s : List Int) (A : List Bool) : Prop where
  bound : ∀ x ∈ s, 0 ≤ x ∧ x < (A.length : Int)
  same : ∀ x : Int, 0 ≤ x → x < (A.length : Int) → decide (x ∈ s) = atI A x
theorem Rel.has {s : List Int} {A : List Bool} (h : Rel s A) (hs : s.length ≤ 1048576) {x : Int} (h0 : 0 ≤ x) (h1 : x < (A.length : Int)) : Ev (fun k => spec_l20Has.f k s x) (atI A x) := Ev.cast (has_ev s hs x) (h.same x h0 h1)
theorem Rel.add {s : List Int} {A : List Bool} (h : Rel s A) {x : Int} (h0 : 0 ≤ x) (h1 : x < (A.length : Int)) : Rel (s ++ [x]) (A.set x.toNat true) := by
  refine ⟨fun y hy => ?_, fun y g0 g1 => ?_⟩
  · rw [List.length_set]
    rcases List.mem_append.1 hy with hy | hy
    · exact h.bound y hy
    · rw [List.mem_singleton] at hy; subst hy; exact ⟨h0, h1⟩
  · rw [List.length_set] at g1
    by_cases e : y = x
    · subst e
      rw [atI, getD_set_eq' (by omega)]
      simp
    · have hne : x.toNat ≠ y.toNat := fun q => e (by omega)
      rw [atI, getD_set_ne' hne, ← atI, ← h.same y g0 g1]
      simp [e]
theorem specJoined_step {t : S42} (hC : t.f9.length ≤ 8) (x7 : Int) (h1 : List Int) (i : Nat) (hi : i < t.f9.length) (s : List Int) (hs : s.length ≤ 1000) (A : List Bool) (hr : ChanIn A.length (t.f9.getD i z119)) (hrel : Rel s A) :
    ∃ s', Rel s' (stepA A (t.f9.getD i z119)) ∧ s'.length ≤ s.length + 1 ∧ ∀ v, Ev (fun k => spec_Joined.l18 k x7 ((i + 1 : Nat) : Int) t h1 s') v → Ev (fun k => spec_Joined.l18 k x7 (i : Int) t h1 s) v := by
  have hrd : rd_T119 t.f9 (i : Int) = t.f9.getD i z119 := rfl
  have f0 := hr.f0; have f1 := hr.f1; have t0 := hr.t0; have t1 := hr.t1
  have go : ∀ (s' : List Int), (∀ v, Ev (fun k => spec_Joined.l18 k x7 ((i + 1 : Nat) : Int) t h1 s') v → Ev (fun k => spec_Joined.l18 k x7 (i : Int) t h1 s) v) → Rel s' (stepA A (t.f9.getD i z119)) → s'.length ≤ s.length + 1 →
      ∃ s', Rel s' (stepA A (t.f9.getD i z119)) ∧ s'.length ≤ s.length + 1 ∧ ∀ v, Ev (fun k => spec_Joined.l18 k x7 ((i + 1 : Nat) : Int) t h1 s') v → Ev (fun k => spec_Joined.l18 k x7 (i : Int) t h1 s) v := fun s' a b c => ⟨s', b, c, a⟩
  generalize hx : t.f9.getD i z119 = r at *
  have hne : r.f1.toNat ≠ r.f2.toNat := fun e => hr.ne (by omega)
  have hs1 : ∀ x : Int, (s ++ [x]).length ≤ 1048576 := fun x => by simp; omega
  have hB := hrel.has (x := r.f2) (by omega) t0 t1
  have hA := hrel.has (x := r.f1) (by omega) f0 f1
  cases hb : atI A r.f2
  · cases ha : atI A r.f1
    · -- neither
      rw [hb] at hB
      rw [ha] at hA
      refine go s (fun v hv => Ev.step ?_) ?_ (by omega)
      · simp only [spec_Joined.l18, hrd, hx, wrap_succ hi (by omega)]
        exact Ev.ite_pos (lt_in hi) (Ev.ite_pos ge_0 (Ev.ite_pos (lt_in hi) (Ev.bind hB (Ev.ite_neg (by simp) (Ev.ite_both (fun _ => Ev.bind hA (Ev.ite_neg (by simp) hv)) (fun _ => hv))))))
      · rw [step_none hr (by rw [fromB, hb]; rfl) (by rw [intoB, ha]; simp)]; exact hrel
    · -- from alone
      rw [hb] at hB
      rw [ha] at hA
      by_cases hq : r.f0 = 1
      · refine go (s ++ [r.f2]) (fun v hv => Ev.step ?_) ?_ (by simp)
        · simp only [spec_Joined.l18, hrd, hx, wrap_succ hi (by omega)]
          exact Ev.ite_pos (lt_in hi) (Ev.ite_pos ge_0 (Ev.ite_pos (lt_in hi) (Ev.bind hB (Ev.ite_neg (by simp) (Ev.ite_pos hq (Ev.bind hA (Ev.ite_pos rfl (Ev.bind hB (Ev.ite_neg (by simp) (Ev.ite_pos (by simp; omega) hv))))))))))
        · have e : stepA A r = A.set r.f2.toNat true := by
            unfold stepA fromB intoB
            rw [ha, hb, decide_eq_true hq]
            simp only [Bool.not_true, Bool.and_false, Bool.or_false, Bool.not_false, Bool.and_true, Bool.false_or]
            rw [set_same' (i := r.f1.toNat) (b := true) ha (by omega)]
          rw [e]
          exact hrel.add t0 t1
      · refine go s (fun v hv => Ev.step ?_) ?_ (by omega)
        · simp only [spec_Joined.l18, hrd, hx, wrap_succ hi (by omega)]
          exact Ev.ite_pos (lt_in hi) (Ev.ite_pos ge_0 (Ev.ite_pos (lt_in hi) (Ev.bind hB (Ev.ite_neg (by simp) (Ev.ite_neg hq hv)))))
        · rw [step_none hr (by rw [fromB, hb]; rfl) (by rw [intoB, decide_eq_false hq]; rfl)]; exact hrel
  · cases ha : atI A r.f1
    · -- to alone: from is added
      rw [hb] at hB
      rw [ha] at hA
      have hadd := hrel.add f0 f1
      have hA' := hadd.has (x := r.f1) (hs1 _) f0 (by rw [List.length_set]; exact f1)
      have hB' := hadd.has (x := r.f2) (hs1 _) t0 (by rw [List.length_set]; exact t1)
      rw [show atI (A.set r.f1.toNat true) r.f1 = true from getD_set_eq' (by omega)] at hA'
      rw [show atI (A.set r.f1.toNat true) r.f2 = true from (getD_set_ne' hne).trans hb] at hB'
      refine go (s ++ [r.f1]) (fun v hv => Ev.step ?_) ?_ (by simp)
      · simp only [spec_Joined.l18, hrd, hx, wrap_succ hi (by omega)]
        exact Ev.ite_pos (lt_in hi) (Ev.ite_pos ge_0 (Ev.ite_pos (lt_in hi) (Ev.bind hB (Ev.ite_pos rfl (Ev.bind hA (Ev.ite_neg (by simp) (Ev.ite_pos (by simp; omega) (Ev.ite_both (fun _ => Ev.bind hA' (Ev.ite_pos rfl (Ev.bind hB' (Ev.ite_pos rfl hv)))) (fun _ => hv)))))))))
      · have e : stepA A r = A.set r.f1.toNat true := by
          unfold stepA fromB intoB
          rw [ha, hb]
          simp only [Bool.not_true, Bool.and_false, Bool.or_false, Bool.not_false, Bool.and_true, Bool.false_or, Bool.true_or]
          exact set_same' (by rw [getD_set_ne' hne]; exact hb) (by simp; omega)
        rw [e]
        exact hadd
    · -- both
      rw [hb] at hB
      rw [ha] at hA
      refine go s (fun v hv => Ev.step ?_) ?_ (by omega)
      · simp only [spec_Joined.l18, hrd, hx, wrap_succ hi (by omega)]
        exact Ev.ite_pos (lt_in hi) (Ev.ite_pos ge_0 (Ev.ite_pos (lt_in hi) (Ev.bind hB (Ev.ite_pos rfl (Ev.bind hA (Ev.ite_pos rfl (Ev.ite_both (fun _ => Ev.bind hA (Ev.ite_pos rfl (Ev.bind hB (Ev.ite_pos rfl hv)))) (fun _ => hv))))))))
      · rw [step_none hr (by rw [fromB, ha]; simp) (by rw [intoB, hb]; simp)]; exact hrel
theorem sweep_snd : ∀ (l : List S119) (m m' : Bool) (A : List Bool), (sweep l m A).2 = (sweep l m' A).2
  | [], _, _, _ => rfl
  | r :: l, m, m', A => by rw [sweep, sweep]; exact sweep_snd l _ _ _
theorem specJoined_l18 {t : S42} (hC : t.f9.length ≤ 8) (x7 : Int) (h1 : List Int) : ∀ (n i : Nat) (s : List Int) (A : List Bool), i + n = t.f9.length → s.length + n ≤ 1000 → (∀ r ∈ t.f9, ChanIn A.length r) → Rel s A →
    ∃ s', Rel s' (sweep (t.f9.drop i) false A).2 ∧ s'.length ≤ s.length + n ∧ ∀ v, Ev (fun k => spec_Joined.l12 k (wrap64 (x7 + 1)) t h1 s') v → Ev (fun k => spec_Joined.l18 k x7 (i : Int) t h1 s) v
  | 0, i, s, A, hi, hs, h, hrel => by
    rw [List.drop_of_length_le (by omega)]
    refine ⟨s, hrel, by omega, fun v hv => Ev.step ?_⟩
    simp only [spec_Joined.l18]
    exact Ev.ite_neg (by omega) hv
  | n + 1, i, s, A, hi, hs, h, hrel => by
    have hlt : i < t.f9.length := by omega
    obtain ⟨s1, r1, l1, c1⟩ := specJoined_step hC x7 h1 i hlt s (by omega) A (h _ (getD_mem hlt)) hrel
    obtain ⟨s2, r2, l2, c2⟩ := specJoined_l18 hC x7 h1 n (i + 1) s1 _ (by omega) (by omega) (by rw [step_len]; exact h) r1
    refine ⟨s2, ?_, by omega, fun v hv => c1 v (c2 v hv)⟩
    rw [Ev.drop_getD t.f9 z119 i hlt, sweep, sweep_snd _ _ false]
    exact r2
theorem specJoined_l12 {t : S42} (hC : t.f9.length ≤ 8) (hP : t.f7.length ≤ 6) (h1 : List Int) : ∀ (n j : Nat) (s : List Int) (A : List Bool), j + n = t.f7.length → s.length + 8 * n ≤ 1000 → (∀ r ∈ t.f9, ChanIn A.length r) → Rel s A →
    ∃ s', Rel s' (iterF t.f9 n A) ∧ s'.length ≤ 1000 ∧ ∀ v, Ev (fun k => spec_Joined.l34 k 0 t h1 s') v → Ev (fun k => spec_Joined.l12 k (j : Int) t h1 s) v
  | 0, j, s, A, hj, hs, h, hrel => by
    refine ⟨s, hrel, by omega, fun v hv => Ev.step ?_⟩
    simp only [spec_Joined.l12]
    exact Ev.ite_neg (by omega) hv
  | n + 1, j, s, A, hj, hs, h, hrel => by
    have hlt : j < t.f7.length := by omega
    obtain ⟨s1, r1, l1, c1⟩ := specJoined_l18 hC (j : Int) h1 t.f9.length 0 s A (by omega) (by omega) h hrel
    rw [List.drop_zero] at r1
    have hlen : (sweepF t.f9 A).length = A.length := (sweep_or h).1
    obtain ⟨s2, r2, l2, c2⟩ := specJoined_l12 hC hP h1 n (j + 1) s1 (sweepF t.f9 A) (by omega) (by omega) (by rw [hlen]; exact h) r1
    refine ⟨s2, r2, l2, fun v hv => Ev.step ?_⟩
    simp only [spec_Joined.l12]
    refine Ev.ite_pos (by omega) (c1 v ?_)
    rw [wrap_succ hlt (by omega)]
    exact c2 v hv
theorem specJoined_l34 {t : S42} (hP : t.f7.length ≤ 6) (s : List Int) (hs : s.length ≤ 1000) (A : List Bool) (hl : A.length = t.f7.length) (hrel : Rel s A) : Ev (fun k => spec_Joined.l34 k 0 t [] s) (bits A) := by
  have := Ev.down A.length (fun k i h => spec_Joined.l34 k i t h s) (fun i h => h.length ≤ i) (fun i h => h ++ bitsFrom A (A.length - i) i) (fun h hh => Ev.step (by
    simp only [spec_Joined.l34]
    exact Ev.ite_neg (by omega) (Ev.cast (Ev.ret _) (by rw [Nat.sub_self, bitsFrom, List.append_nil])))) (fun i hi h hh ih => Ev.step (by
    have hb := hrel.has (x := (i : Int)) (by omega) ge_0 (by omega)
    rw [atI, Int.toNat_natCast] at hb
    have e : A.length - i = (A.length - (i + 1)) + 1 := by omega
    simp only [spec_Joined.l34, wrap_succ hi (by omega)]
    refine Ev.ite_pos (by omega) (Ev.bind hb ?_)
    rw [e, bitsFrom]
    by_cases c : A.getD i false = true
    · exact Ev.ite_pos c (Ev.ite_pos (by simp; omega) (Ev.cast (ih _ (by simp; omega)) (by rw [if_pos c]; simp)))
    · exact Ev.ite_neg c (Ev.cast (ih _ (by omega)) (by rw [if_neg c])))) A.length 0 (by omega) [] (by simp)
  simpa [bits] using this
theorem iter_len {C : List S119} : ∀ (n : Nat) (A : List Bool), (∀ r ∈ C, ChanIn A.length r) → (iterF C n A).length = A.length
  | 0, A, h => rfl
  | n + 1, A, h => by
    have := (sweep_or h).1
    rw [iterF, iter_len n _ (by rw [this]; exact h), this]
theorem start_rel (n : Nat) (p : Int) (h0 : 0 ≤ p) (h1 : p < (n : Int)) : Rel [p] (start n p) := by
  have : Rel [] (List.replicate n false) := ⟨fun x hx => (by cases hx), fun x g0 g1 => (by simp only [atI, List.getD_eq_getElem?_getD, List.getElem?_replicate]; split <;> simp)⟩
  exact this.add h0 (by simpa using h1)
/-- What both Joined come to. -/
def joinedV (t : S42) (p : Int) : List Int := if soundB t = true then (if inB p 0 ((t.f7.length : Int) - 1) = true then closure t p else []) else []
theorem specJoined (t : S42) (hs : Small t) (hnm : ∀ x ∈ t.f7, x.f0.size ≤ 9223372036854775807) (p : Int) : Ev (fun k => spec_Joined.f k t p) (joinedV t p) := by
  unfold spec_Joined.f joinedV
  refine Ev.bind (specSound t hs hnm) ?_
  refine Ev.ite_both (fun hb => ?_) (fun hb => Ev.cast (Ev.ret _) (by rw [if_neg hb]))
  obtain ⟨h1, h2, h3, h4⟩ := sound_chans hb
  rw [if_pos hb, wrap_of (by omega) (by omega)]
  simp only [l01In_some, Option.bind_some]
  refine Ev.ite_both (fun hp => ?_) (fun hp => Ev.cast (Ev.ret _) (by rw [if_neg hp]))
  rw [if_pos hp]
  have hp' := in_iff.1 hp
  have hl := start_len t.f7.length p
  obtain ⟨s, r, l, c⟩ := specJoined_l12 h1 h2 [] t.f7.length 0 [p] (start t.f7.length p) (by omega) (by simp; omega) (by rw [hl]; exact h4) (start_rel _ p hp'.1 (by omega))
  refine c _ (specJoined_l34 h2 s l _ ?_ r)
  rw [iter_len _ _ (by rw [hl]; exact h4), hl]
theorem closure_mem {t : S42} (h : soundB t = true) (p : Int) : ∀ x ∈ closure t p, 0 ≤ x ∧ x < (t.f7.length : Int) := fun x hx => by
  obtain ⟨h1, h2, h3, h4⟩ := sound_chans h
  have hl := start_len t.f7.length p
  obtain ⟨j, e, _, hj, _⟩ := (mem_bitsFrom _ x _ _).1 hx
  rw [iter_len _ _ (by rw [hl]; exact h4), hl] at hj
  omega
theorem closure_len {t : S42} (h : soundB t = true) (p : Int) : (closure t p).length ≤ 6 := by
  obtain ⟨h1, h2, h3, h4⟩ := sound_chans h
  have hl := start_len t.f7.length p
  have := bitsFrom_len (iterF t.f9 t.f7.length (start t.f7.length p)) (iterF t.f9 t.f7.length (start t.f7.length p)).length 0
  rw [iter_len _ _ (by rw [hl]; exact h4), hl] at this
  unfold closure bits
  rw [iter_len _ _ (by rw [hl]; exact h4), hl]
  omega
end Go.Proofs.YtgagpmiooeoodaaGreat.PTwo
