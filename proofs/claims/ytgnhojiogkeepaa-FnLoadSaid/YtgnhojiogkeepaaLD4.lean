/- Plain Lean over the printed functions: tables that are drawn, sound or spoilt in one place. -/
import Derived.Test.YtgnhojiogkeepaaLD3
set_option linter.unusedVariables false
set_option linter.unusedSimpArgs false
set_option linter.unusedSectionVars false
namespace Go.Proofs.Ytgnhojiogkeepaa.PLo
open Go Go.RowKit Go.Proofs.Ytgnhojiogkeepaa.V Go.Proofs.Ytgnhojiogkeepaa.C

/-- Tables of a drawn size. -/
structure Any (t : S50) : Prop where
  parts : 1 ≤ t.f7.length ∧ t.f7.length ≤ 6
  part : ∀ p ∈ t.f7, p.f0.size ≤ 100 ∧ p.f3.length ≤ 100
  devs : t.f8.length ≤ 100
  chans : t.f9.length ≤ 100
  slots : t.f10.length ≤ 16
theorem Any.small {t : S50} (h : Any t) : Small t :=
  ⟨by have := h.parts; omega, fun x hx => by have := h.part x hx; omega, by have := h.devs; omega, by have := h.chans; omega, by have := h.slots; omega⟩
theorem Any.names {t : S50} (h : Any t) : ∀ x ∈ t.f7, x.f0.size ≤ 9223372036854775807 := fun x hx => by have := h.part x hx; omega

theorem pickS_out {y : S119} (c : Cur y) {l : List ByteArray} (hl : l ≠ []) : Out (fun z => z.1 ∈ l ∧ Cur z.2.1) (fun _ => spec_l01Pick_o1.f y l) := by
  have h0 : 0 < l.length := List.length_pos_iff.2 hl
  unfold spec_l01Pick_o1.f
  try simp only [lenZ_eq]
  refine Out.bind (below_out c (n := (l.length : Int)) (by omega)) fun z hz => Out.ite_pos hz.1.1 (Out.ite_pos hz.1.2 (Out.ret ⟨?_, hz.2⟩))
  exact getD_mem (z := ByteArray.empty) (by have := hz.1; omega)

def AnyC (z : S50 × S119) : Prop := Any z.1 ∧ Cur z.2
theorem any_fin {y : S119} (c : Cur y) (t0 t : S50) (h : Any t) : Out AnyC (fun k => spec_l13Any_o1.l85 k y t0 t) := by
  refine Out.step ?_
  simp only [lenZ_eq, spec_l13Any_o1.l85]
  exact Out.ret (show Any t ∧ Cur y from ⟨h, c⟩)
theorem part_set {l : List S75} (h : ∀ p ∈ l, p.f0.size ≤ 100 ∧ p.f3.length ≤ 100) (i : Nat) {q : S75} (hq : q.f0.size ≤ 100 ∧ q.f3.length ≤ 100) : ∀ p ∈ l.set i q, p.f0.size ≤ 100 ∧ p.f3.length ≤ 100 := by
  intro p hp
  rcases List.mem_or_eq_of_mem_set hp with h1 | h1
  · exact h p h1
  · rw [h1]; exact hq
theorem any_out {y : S119} (c : Cur y) : Out AnyC (fun k => spec_l13Any_o1.f k y) := by
  unfold spec_l13Any_o1.f
  try simp only [lenZ_eq]
  refine Out.bind (below_out c (n := 3) (by omega)) fun z hz => ?_
  have hz1 := hz.1
  rw [wrap_of (a := 2 + z.1) (by omega) (by omega)]
  refine Out.bind (tables_out (n := 2 + z.1) (by omega) hz.2) fun u hu => Out.bind (below_out hu.2 (n := 36) (by omega)) fun z3 hz3 => ?_
  obtain ⟨t, y1⟩ := u
  obtain ⟨ht, hy⟩ := hu
  simp only at ht hy hz3 ⊢
  obtain ⟨e, hr⟩ := ht.rows
  have hp := ht.parts
  have hs := ht.slots
  have hd := ht.devs
  have hc := ht.chans
  have hnm := ht.names (by omega)
  have hpart : ∀ p ∈ t.f7, p.f0.size ≤ 100 ∧ p.f3.length ≤ 100 := by
    intro p hpm
    obtain ⟨i, hi, rfl⟩ := List.getElem_of_mem hpm
    have h1 := hr.name i hi
    have h2 : t.f7.getD i z75 = t.f7[i] := by rw [List.getD_eq_getElem?_getD, List.getElem?_eq_getElem hi]; rfl
    rw [h2] at h1
    have h3 := nms_ok i (List.mem_range.2 (by omega))
    rw [Bool.and_eq_true, decide_eq_true_eq] at h3
    have h4 := (hr.part _ hpm).2.1
    rw [h1]
    omega
  have a0 : (0 : Int) < (t.f7.length : Int) := by omega
  have a1 : (1 : Int) < (t.f7.length : Int) := by omega
  have m0 := getD_mem (z := z75) (l := t.f7) (i := 0) (by omega)
  have m1 := getD_mem (z := z75) (l := t.f7) (i := 1) (by omega)
  have w0 : (0 : Int) < ((t.f7.getD 0 z75).f3.length : Int) := by have := (hr.part _ m0).2.1; omega
  have w1 : (0 : Int) < ((t.f7.getD 1 z75).f3.length : Int) := by have := (hr.part _ m1).2.1; omega
  have p0 := hpart _ m0
  have p1 := hpart _ m1
  have e1 : wrap64 ((t.f10.length : Int) - 1) = (t.f10.length : Int) - 1 := wrap_of (by omega) (by omega)
  have s0 : (0 : Int) ≤ (t.f10.length : Int) - 1 := by omega
  have s1 : (t.f10.length : Int) - 1 < (t.f10.length : Int) := by omega
  have s2 : (0 : Int) < (t.f10.length : Int) := by omega
  have cy := hz3.2
  simp only [a0, a1, w0, w1, e1, s0, s1, s2, if_true, sameO_self]
  have mk : ∀ (a : Int) (b : S42) (c : Int) (d : S44) (e f g : Int) (P : List S75) (D : List Int) (C : List S117) (S : List S86), 1 ≤ P.length ∧ P.length ≤ 6 → (∀ p ∈ P, p.f0.size ≤ 100 ∧ p.f3.length ≤ 100) → D.length ≤ 100 → C.length ≤ 100 → S.length ≤ 16 → Any ((a, b, c, d, e, f, g, P, D, C, S) : S50) := fun _ _ _ _ _ _ _ _ _ _ _ h1 h2 h3 h4 h5 => ⟨h1, h2, h3, h4, h5⟩
  have hP : 1 ≤ t.f7.length ∧ t.f7.length ≤ 6 := by omega
  have base : ∀ (a : Int) (b : S42) (c : Int) (d : S44) (e f g : Int), Any ((a, b, c, d, e, f, g, t.f7, t.f8, t.f9, t.f10) : S50) := fun a b c d e f g => mk a b c d e f g _ _ _ _ hP hpart (by omega) (by omega) (by omega)
  have setp : ∀ (i : Nat) (q : S75), q.f0.size ≤ 100 ∧ q.f3.length ≤ 100 → Any ((t.f0, t.f1, t.f2, t.f3, t.f4, t.f5, t.f6, t.f7.set i q, t.f8, t.f9, t.f10) : S50) := fun i q hq => mk _ _ _ _ _ _ _ _ _ _ _ (by rw [List.length_set]; exact hP) (part_set hpart i hq) (by omega) (by omega) (by omega)
  have sets : ∀ (i : Nat) (q : S86), Any ((t.f0, t.f1, t.f2, t.f3, t.f4, t.f5, t.f6, t.f7, t.f8, t.f9, t.f10.set i q) : S50) := fun i q => mk _ _ _ _ _ _ _ _ _ _ _ hP hpart (by omega) (by omega) (by rw [List.length_set]; omega)
  have hb := ht.sound
  have hb1 : headB t = true := by
    simp only [soundB, Bool.and_eq_true] at hb; exact hb.1
  obtain ⟨hcost, hshape, _⟩ := head_in hb1
  have hok : ∀ r ∈ t.f9, chanB r = true := by
    simp only [soundB, chansB, Bool.and_eq_true] at hb
    obtain ⟨_, _, ⟨_, _, hch, _⟩, _⟩ := hb
    rw [any_not_all'] at hch
    exact chans_ok hch
  refine Out.ite (fun _ => Out.bind (pick_out cy (by simp)) fun v hv => any_fin hv.2 _ _ (base _ _ _ _ _ _ _)) fun _ => ?_
  refine Out.ite (fun _ => any_fin cy _ _ (base _ _ _ _ _ _ _)) fun _ => ?_
  refine Out.ite (fun _ => Out.bind (pick_out cy (by simp)) fun v hv => any_fin hv.2 _ _ (base _ _ _ _ _ _ _)) fun _ => ?_
  refine Out.ite (fun _ => any_fin cy _ _ (base _ _ _ _ _ _ _)) fun _ => ?_
  refine Out.ite (fun _ => Out.bind (Out.ev (specPad hcost hshape t.f9 (by omega) hok) rfl) fun w (_ : padV t.f3 t.f1 t.f9 = w) => Out.bind (pick_out cy (by simp)) fun v hv => any_fin hv.2 _ _ (base _ _ _ _ _ _ _)) fun _ => ?_
  refine Out.ite (fun _ => Out.bind (Out.ev (specStep hcost) rfl) fun w (_ : stepV t.f3 = w) => any_fin cy _ _ (base _ _ _ _ _ _ _)) fun _ => ?_
  refine Out.ite (fun _ => any_fin cy _ _ (base _ _ _ _ _ _ _)) fun _ => ?_
  refine Out.ite (fun _ => Out.bind (pickS_out cy (by simp)) fun v hv => any_fin hv.2 _ _ (setp 0 _ ⟨?_, p0.2⟩)) fun _ => ?_
  · have hv1 := hv.1
    simp only [List.mem_cons, List.not_mem_nil, or_false] at hv1
    show v.1.size ≤ 100
    rcases hv1 with h | h | h | h <;> rw [h] <;> decide
  refine Out.ite (fun _ => Out.bind (pick_out cy (by simp)) fun v hv => any_fin hv.2 _ _ (setp 0 _ ⟨p0.1, p0.2⟩)) fun _ => ?_
  refine Out.ite (fun _ => any_fin cy _ _ (setp 1 _ ⟨p1.1, by show (List.set _ _ _).length ≤ 100; rw [List.length_set]; exact p1.2⟩)) fun _ => ?_
  refine Out.ite (fun _ => any_fin cy _ _ (setp 0 _ ⟨p0.1, p0.2⟩)) fun _ => ?_
  refine Out.ite (fun _ => any_fin cy _ _ (setp 0 _ ⟨p0.1, by show (0 : Nat) ≤ 100; omega⟩)) fun _ => ?_
  refine Out.ite (fun _ => Out.bind (pick_out cy (by simp)) fun v hv => Out.ite_pos (by simp; omega) (any_fin hv.2 _ _ (mk _ _ _ _ _ _ _ _ _ _ _ hP hpart (by simp; omega) (by omega) (by omega)))) fun _ => ?_
  refine Out.ite (fun _ => Out.bind (pick_out cy (by simp)) fun v hv => Out.ite_pos (by simp; omega) (any_fin hv.2 _ _ (mk _ _ _ _ _ _ _ _ _ _ _ hP hpart (by omega) (by simp; omega) (by omega)))) fun _ => ?_
  refine Out.ite (fun _ => Out.bind (pick_out cy (by simp)) fun v hv => any_fin hv.2 _ _ (sets _ _)) fun _ => ?_
  refine Out.ite (fun _ => any_fin cy _ _ (sets _ _)) fun _ => ?_
  refine Out.ite (fun _ => any_fin cy _ _ (sets _ _)) fun _ => ?_
  refine Out.ite (fun _ => any_fin cy _ _ (mk _ _ _ _ _ _ _ _ _ _ _ hP hpart (by omega) (by omega) (by simp))) fun _ => ?_
  refine Out.ite (fun _ => any_fin cy _ _ (setp 0 _ ⟨p0.1, by show (List.set _ _ _).length ≤ 100; rw [List.length_set]; exact p0.2⟩)) fun _ => ?_
  exact any_fin cy _ _ (base t.f0 t.f1 t.f2 t.f3 t.f4 t.f5 t.f6)
end Go.Proofs.Ytgnhojiogkeepaa.PLo
