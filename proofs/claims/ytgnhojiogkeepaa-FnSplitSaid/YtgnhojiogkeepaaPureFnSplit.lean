/- Plain Lean over the printed functions: a slot that is split and merged again is as before, the split costs its partition what it must; and so the law's function answers true. -/
import Derived.Test.YtgnhojiogkeepaaD6
set_option linter.unusedVariables false
set_option linter.unusedSimpArgs false
set_option linter.unusedSectionVars false
namespace Go.Proofs.Ytgnhojiogkeepaa.PSp
open Go Go.RowKit Go.Proofs.Ytgnhojiogkeepaa.V Go.Proofs.Ytgnhojiogkeepaa.C

/-! ### What is drawn -/
def SpQ (z : S50 × Int × Int) : Prop := Any z.1
theorem split_l21 (t : S50) (h : Any t) (y : S50) (i f : Int) : Out SpQ (fun k => spec_DrawSplit.l21 k i f y t) := by
  refine Out.step ?_
  simp only [lenZ_eq, spec_DrawSplit.l21]
  exact Out.ret h
theorem split_l11 (t : S50) (h : Any t) (y : S50) {c : S119} (hc : Cur c) (i f : Int) : Out SpQ (fun k => spec_DrawSplit.l11 k i f y t c) := by
  have hs := h.slots
  refine Out.step ?_
  simp only [lenZ_eq, spec_DrawSplit.l11, sameO_self]
  refine Out.ite (fun h0 => ?_) fun _ => split_l21 t h _ i f
  refine Out.bind (once_out hc 4) fun z hz => Out.ite (fun _ => split_l21 t h _ i f) fun _ => ?_
  have h0' : (0 : Int) ≤ wrap64 ((t.f10.length : Int) - 1) := h0
  rw [wrap_of (by omega) (by omega)] at h0'
  rw [wrap_of (a := (t.f10.length : Int) - 1) (by omega) (by omega)]
  refine Out.ite_pos (by omega) (Out.ite_pos (by omega) (Out.ite_pos (by omega) (Out.ite_pos (by omega) ?_)))
  refine Out.bind (below_out hz (n := 150) (by omega)) fun u hu => ?_
  exact split_l21 _ (any_set h t.f6 (by simp)) _ _ _
theorem drawSplit_out (code : List Int) (hc : code.length ≤ 1048576) : Out SpQ (fun k => spec_DrawSplit.f k code) := by
  unfold spec_DrawSplit.f spec_l23Slot.f
  try simp only [lenZ_eq]
  simp only [sameO_self]
  refine Out.bind (Q := fun z : S50 × Int => Any z.1) (Out.bind (new_out code (by omega)) fun y hy => Out.bind (any_out hy) fun u hu => Out.bind (below_any hu.2 _) fun z hz => Out.ret hu.1) fun v hv => ?_
  refine Out.ite_pos (by simp only [List.length_cons, List.length_nil]; omega) (Out.bind (new_out _ (by simp only [List.length_append, List.length_cons, List.length_nil]; omega)) fun y hy => Out.bind (below_out hy (n := 60) (by omega)) fun u hu => ?_)
  exact split_l11 _ (any_set hv _ rfl) _ hu.2 _ _

/-! ### Split, and merged again -/
theorem splitV_no {t : S50} {i f : Int} (h : (splitV t i f).2 = false) : (splitV t i f).1 = zeroT := by
  unfold splitV at h ⊢
  split at h
  case isFalse => rename_i c; rw [if_neg c]
  rename_i c
  rw [if_pos c]
  split at h
  · cases h
  · rename_i d; rw [if_neg d]
theorem splitV_yes {t : S50} {i f : Int} (h : (splitV t i f).2 = true) : soundB t = true ∧ (splitL t t.f10 i f).2 = true ∧ splitV t i f = (setSl t (splitL t t.f10 i f).1, true) := by
  unfold splitV at h ⊢
  split at h
  case isFalse => cases h
  rename_i c
  rw [if_pos c]
  split at h
  case isFalse => cases h
  rename_i d
  rw [if_pos d]
  exact ⟨c, d, rfl⟩
theorem split_merge {l : List S86} {n : Nat} {f : Int} {s : S86} (hn : l[n]? = some s) (hg : l.getD n z86 = s) (t : S50) (hw : wrap64 (s.f2 - f) = s.f2 - f) (hw2 : wrap64 s.f2 = s.f2) : mergeAt (setSl t (splitAt l n f)) n = l ∧ slotAt (setSl t (splitAt l n f)) n = (s.f0, s.f1, f) ∧ slotAt (setSl t (splitAt l n f)) (n + 1) = (s.f0, wrap64 (s.f1 + f), wrap64 (s.f2 - f)) := by
  have hlt := (List.getElem?_eq_some_iff.1 hn).1
  have htl : (l.take n).length = n := by rw [List.length_take]; omega
  have e1 : slotAt (setSl t (splitAt l n f)) n = (s.f0, s.f1, f) := by
    show (splitAt l n f).getD n z86 = _
    unfold splitAt
    rw [hg, List.getD_eq_getElem?_getD, List.getElem?_append_right (by omega), htl, Nat.sub_self]
    rfl
  have e2 : slotAt (setSl t (splitAt l n f)) (n + 1) = (s.f0, wrap64 (s.f1 + f), wrap64 (s.f2 - f)) := by
    show (splitAt l n f).getD (n + 1) z86 = _
    unfold splitAt
    rw [hg, List.getD_eq_getElem?_getD, List.getElem?_append_right (by omega), htl, show n + 1 - n = 1 by omega]
    rfl
  refine ⟨?_, e1, e2⟩
  unfold mergeAt
  rw [e1, e2]
  show (splitAt l n f).take n ++ ([(s.f0, s.f1, wrap64 (f + wrap64 (s.f2 - f)))] ++ (splitAt l n f).drop (n + 2)) = l
  rw [hw, show f + (s.f2 - f) = s.f2 by omega, hw2]
  unfold splitAt
  rw [hg, List.take_append_of_le_length (by omega), List.take_take, Nat.min_self, List.drop_append, List.drop_eq_nil_of_le (by omega), htl, show n + 2 - n = 2 by omega, List.nil_append]
  show l.take n ++ ([s] ++ l.drop (n + 1)) = l
  conv => rhs; rw [← List.take_append_drop n l]
  rw [List.drop_eq_getElem_cons hlt]
  rw [List.getElem?_eq_getElem hlt] at hn
  cases hn
  rfl

theorem pure_FnSplit : ∀ (x0 : (Ty.sl (.int .u8)).den), Fits (.sl (.int .u8)) x0 → ∃ k, laws_FnSplit.c.fn k (x0, ()) () = some true := by
  intro code hf
  refine Ev.get (g := fun k => laws_FnSplit.f k code) ?_
  unfold laws_FnSplit.f laws_big.f
  try simp only [lenZ_eq]
  simp only [Option.bind_some]
  refine Ev.ite_both (fun _ => Ev.ret _) fun hbig => ?_
  have hlen : code.length ≤ 1048576 := by
    have : ¬ (code.length : Int) > 1048576 := by simpa using hbig
    omega
  obtain ⟨⟨t, i, f⟩, hd, ht⟩ := drawSplit_out code hlen
  have ht : Any t := ht
  have hs := ht.small
  have hnm := ht.names
  refine Ev.bind hd (Ev.bind (specSplit_ev t hs hnm i f) (Ev.bind (implSplit_ev t hs hnm i f) ?_))
  have hbb : ∀ b : Bool, (b == b) = true := fun b => by cases b <;> rfl
  refine Ev.ite_pos (hbb _) ?_
  cases hb : (splitV t i f).2
  · refine Ev.ite_neg (by simp) ?_
    rw [splitV_no hb]
    exact Ev.ret _
  refine Ev.ite_pos rfl ?_
  obtain ⟨c1, c2, c3⟩ := splitV_yes hb
  have hso := sound_split c1 i f c2
  obtain ⟨n, rfl, hn, h16, hL, s, hs1, hs2, a1, a2, a3, a4, a5, a6⟩ := splitL_true (t := t) (l := t.f10) (i := i) (f := f) c1 c2
  rw [c3]
  rw [hL] at hso ⊢
  obtain ⟨hp, hin⟩ := sound_in c1
  have hp4 := hp.pad; have hp5 := hp.guard; have hp6 := hp.major
  have hw : wrap64 (s.f2 - f) = s.f2 - f := wrap_of (by omega) (by omega)
  have hw2 : wrap64 s.f2 = s.f2 := wrap_of (by omega) (by omega)
  obtain ⟨m1, m2, m3⟩ := split_merge hs1 hs2 t hw hw2
  have hlen2 : (splitAt t.f10 n f).length = t.f10.length + 1 := splitAt_len hn
  have hsm : Small (setSl t (splitAt t.f10 n f)) := setSl_small hs (by omega)
  have hmg : mergeV (setSl t (splitAt t.f10 n f)) (n : Int) = (t, true) := by
    unfold mergeV
    rw [if_pos hso, if_pos (in_iff.2 (by show (0 : Int) ≤ n ∧ (n : Int) ≤ ((splitAt t.f10 n f).length : Int) - 2; omega)), Int.toNat_natCast, m2, m3, if_pos rfl, if_pos rfl, m1]
    rfl
  have hI := implMerge_ev (setSl t (splitAt t.f10 n f)) hsm hnm (n : Int)
  rw [hmg] at hI
  refine Ev.bind hI (Ev.ite_pos rfl (Ev.bind (same_ev t hs) (Ev.ite_pos rfl ?_)))
  have hSd : Ev (fun k => impl_Sound.f k (setSl t (splitAt t.f10 n f))) true := by
    unfold impl_Sound.f
    try simp only [lenZ_eq]
    exact Ev.bind (implSound _ hsm hnm) (Ev.cast (Ev.ret _) hso)
  refine Ev.bind hSd (Ev.ite_pos rfl (Ev.ite_pos ?_ ?_))
  · show ((splitAt t.f10 n f).length : Int) = wrap64 ((t.f10.length : Int) + 1)
    rw [wrap_of (by omega) (by omega), hlen2]; omega
  have hwv : ∀ x, t.f10[n]? = some x → wrap64 (x.f2 - f) = x.f2 - f := fun x hx => by
    rw [hs1] at hx
    cases hx
    exact hw
  have hsum : sumL (splitAt t.f10 n f) = sumL t.f10 := split_sum t.f10 n hn hwv
  have hshare : ∀ p, shareL (t.f4 + t.f5) p (splitAt t.f10 n f) = shareL (t.f4 + t.f5) p t.f10 - (if s.f0 = p then t.f4 + t.f5 else 0) := fun p => by
    have := split_share (d := t.f4 + t.f5) (p := p) t.f10 n hn hwv
    rw [hs2] at this
    exact this
  have hpl := ht.parts
  have hq : t.f7.length ≤ 9223372036854775807 := Nat.le_trans hs.parts (by decide)
  have key : ∀ (m j : Nat), j + m = t.f7.length → Ev (fun k => laws_FnSplit.l28 k (n : Int) (j : Int) t (setSl t (splitAt t.f10 n f))) true := by
    intro m
    induction m with
    | zero =>
      intro j hj
      refine Ev.step ?_
      simp only [lenZ_eq, laws_FnSplit.l28]
      refine Ev.ite_neg (by omega) (Ev.bind (gapOf_ev hsm hnm hso) (Ev.bind (gapOf_ev hs hnm c1) (Ev.cast (Ev.ret _) ?_)))
      show decide (t.f6 - sumL (splitAt t.f10 n f) = t.f6 - sumL t.f10) = true
      rw [hsum]
      simp
    | succ m ih =>
      intro j hj
      have hlt : j < t.f7.length := by omega
      have hb1 := shareL_in (d := t.f4 + t.f5) (p := (j : Int)) (by omega) t.f10 hin
      have hsl := ht.slots
      refine Ev.step ?_
      simp only [lenZ_eq, laws_FnSplit.l28, rd_T86, Int.toNat_natCast, wrap_succ hlt hq, hs2]
      refine Ev.ite_pos (lt_in hlt) (Ev.ite_pos ge_0 (Ev.ite_pos (by omega) ?_))
      have h1 := shareOf_ev hsm hnm hso (j : Int)
      have h2 := shareOf_ev hs hnm c1 (j : Int)
      change Ev _ (shareL (t.f4 + t.f5) (j : Int) (splitAt t.f10 n f)) at h1
      rw [hshare] at h1
      by_cases c : (j : Int) = s.f0
      · rw [if_pos c.symm] at h1
        refine Ev.ite_pos c (Ev.bind h1 (Ev.bind h2 (Ev.ite_pos ?_ (ih (j + 1) (by omega)))))
        rw [wrap_of (a := t.f4 + t.f5) (by omega) (by omega), wrap_of (by omega) (by omega)]
      · rw [if_neg (fun e => c e.symm)] at h1
        refine Ev.ite_neg c (Ev.bind h1 (Ev.bind h2 (Ev.ite_pos ?_ (ih (j + 1) (by omega)))))
        rw [wrap_of (by omega) (by omega)]
  exact key t.f7.length 0 (by omega)
end Go.Proofs.Ytgnhojiogkeepaa.PSp
