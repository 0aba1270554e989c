/- Plain Lean over the printed functions: guests that are drawn. -/
import Derived.Test.YtgnhojiogkeepaaKD21
set_option linter.unusedVariables false
set_option linter.unusedSimpArgs false
set_option linter.unusedSectionVars false
namespace Go.Proofs.Ytgnhojiogkeepaa.PPo
open Go Go.RowKit Go.Proofs.Ytgnhojiogkeepaa.V Go.Proofs.Ytgnhojiogkeepaa.C

/-! ### Instructions -/
theorem form_some (a : Int) : ∃ v, spec_FormOf.f a = some v := by
  unfold spec_FormOf.f
  simp only [l01In_some, Option.bind_some]
  by_cases c : inB a 0 32 = true
  · have := in_iff.1 c
    rw [if_pos c]
    unfold spec_l02Forms.f
    simp only [Option.bind_some, List.length_cons, List.length_nil]
    rw [if_pos (by omega), if_pos (by omega)]
    exact ⟨_, rfl⟩
  · rw [if_neg c]; exact ⟨_, rfl⟩
theorem field_some (a b c d e : Int) (h : b ≠ 0) : ∃ v, spec_l02Field.f a b c d e = some v := by
  unfold spec_l02Field.f
  rw [if_neg h]
  split
  · exact ⟨_, rfl⟩
  · simp only [l01In_some, Option.bind_some]; exact ⟨_, rfl⟩
theorem instr_some (i : S173) : ∃ v, spec_InstrOk.f i = some v := by
  unfold spec_InstrOk.f
  obtain ⟨f, hf⟩ := form_some i.f0
  obtain ⟨a, ha⟩ := field_some f 1 i.f1 0 15 (by decide)
  obtain ⟨b, hb⟩ := field_some f 2 i.f2 0 15 (by decide)
  obtain ⟨c, hc⟩ := field_some f 4 i.f3 0 15 (by decide)
  obtain ⟨d, hd⟩ := field_some f 8 i.f4 (-8192) 8191 (by decide)
  simp only [hf, ha, hb, hc, hd, Option.bind_some]
  split
  · split
    · split
      · split
        · exact ⟨_, rfl⟩
        · exact ⟨_, rfl⟩
      · exact ⟨_, rfl⟩
    · exact ⟨_, rfl⟩
  · exact ⟨_, rfl⟩
theorem encode_some (i : S173) : ∃ v, spec_Encode.f i = some v := by
  unfold spec_Encode.f
  obtain ⟨v, hv⟩ := instr_some i
  have hm : ∃ m, spec_l01Mod.f i.f4 16384 = some m := by
    unfold spec_l01Mod.f
    rw [if_neg (by decide)]
    split <;> exact ⟨_, rfl⟩
  obtain ⟨m, hm⟩ := hm
  simp only [hv, hm, Option.bind_some]
  split <;> exact ⟨_, rfl⟩
def CurQ {α : Type} (z : α × S119) : Prop := Cur z.2
theorem instr_l33 {y : S119} (c : Cur y) (a b : S173) : Out CurQ (fun k => spec_l02Instr_o1.l33 k y a b) := by
  refine Out.step ?_
  simp only [spec_l02Instr_o1.l33]
  exact Out.ret c
theorem instr_imm {y : S119} (c : Cur y) (a : S173) (f g h : Int → S173) : Out CurQ (fun k => (spec_l01Below_o1.f 17 y).bind fun t7 => ((spec_l01Below_o1.f 8 t7.2).bind fun t8 => (if t8.1 = 0 then ((spec_l01PickInt_o1.f t8.2 ([(-8192), 8191, 0] : List Int)).bind fun t9 => (spec_l02Instr_o1.l33 k t9.2.1 a (f t9.1))) else (if t8.1 = 1 then ((spec_l01Below_o1.f 16384 t8.2).bind fun t10 => (spec_l02Instr_o1.l33 k t10.2 a (g t10.1))) else (spec_l02Instr_o1.l33 k t8.2 a (h t7.1)))))) :=
  Out.bind (below_out c (n := 17) (by omega)) fun t7 h7 => Out.bind (below_out h7.2 (n := 8) (by omega)) fun t8 h8 => Out.ite (fun _ => Out.bind (pick_out h8.2 (by simp)) fun t9 h9 => instr_l33 h9.2 _ _) fun _ => Out.ite (fun _ => Out.bind (below_out h8.2 (n := 16384) (by omega)) fun t10 h10 => instr_l33 h10.2 _ _) fun _ => instr_l33 h8.2 _ _
theorem instr_l15 {y : S119} (c : Cur y) (x : Int) (a b : S173) : Out CurQ (fun k => spec_l02Instr_o1.l15 k x y a b) := by
  refine Out.step ?_
  simp only [spec_l02Instr_o1.l15]
  refine Out.ite (fun _ => Out.bind (below_out c (n := 16) (by omega)) fun t6 h6 => Out.ite (fun _ => ?_) fun _ => instr_l33 h6.2 _ _) fun _ => Out.ite (fun _ => ?_) fun _ => instr_l33 c _ _
  · exact instr_imm h6.2 a (fun i => (b.f0, b.f1, b.f2, t6.1, i)) (fun i => (b.f0, b.f1, b.f2, t6.1, wrap64 (i - 8192))) (fun i => (b.f0, b.f1, b.f2, t6.1, wrap64 (i - 8)))
  · exact instr_imm c a (fun i => (b.f0, b.f1, b.f2, b.f3, i)) (fun i => (b.f0, b.f1, b.f2, b.f3, wrap64 (i - 8192))) (fun i => (b.f0, b.f1, b.f2, b.f3, wrap64 (i - 8)))
theorem instr_out {y : S119} (c : Cur y) : Out CurQ (fun k => spec_l02Instr_o1.f k y) := by
  unfold spec_l02Instr_o1.f
  refine Out.bind (below_out c (n := 33) (by omega)) fun t1 h1 => ?_
  obtain ⟨v, hv⟩ := form_some t1.1
  simp only [hv, Option.bind_some]
  refine Out.ite (fun _ => Out.bind (below_out h1.2 (n := 16) (by omega)) fun t3 h3 => Out.ite (fun _ => Out.bind (below_out h3.2 (n := 16) (by omega)) fun t4 h4 => instr_l15 h4.2 _ _ _) fun _ => instr_l15 h3.2 _ _ _) fun _ => Out.ite (fun _ => Out.bind (below_out h1.2 (n := 16) (by omega)) fun t5 h5 => instr_l15 h5.2 _ _ _) fun _ => instr_l15 h1.2 _ _ _

/-! ### Programs -/
def SrcQ (n : Nat) (z : List Int × S119) : Prop := z.1.length = n ∧ Cur z.2
theorem source_out (d : Int) (m : Nat) : ∀ (i : Nat) {y : S119} (c : Cur y) (l : List Int), i + m = 32 → l.length = i → Out (SrcQ 32) (fun k => spec_l08Source_o1.l6 k 32 d (i : Int) y l) := by
  induction m with
  | zero =>
    intro i y c l hi hl
    refine Out.step ?_
    simp only [spec_l08Source_o1.l6]
    exact Out.ite_neg (by omega) (Out.ret ⟨by show l.length = 32; omega, c⟩)
  | succ m ih =>
    intro i y c l hi hl
    have hw : wrap64 ((i : Int) + 1) = ((i + 1 : Nat) : Int) := by rw [wrap_of (by omega) (by omega)]; omega
    have fin : ∀ (w : Int) {q : S119} (cq : Cur q), Out (SrcQ 32) (fun k => (spec_l01Once_o1.f 30 q).bind fun t => (if t.1 = true then ((spec_l01Word_o1.f t.2).bind fun u => (if l.length + ([u.1] : List Int).length < 35184372088832 then (spec_l08Source_o1.l6 k 32 d ((i + 1 : Nat) : Int) u.2 (l ++ ([u.1] : List Int))) else none)) else (if l.length + ([w] : List Int).length < 35184372088832 then (spec_l08Source_o1.l6 k 32 d ((i + 1 : Nat) : Int) t.2 (l ++ ([w] : List Int))) else none))) := fun w q cq =>
      Out.bind (once_out cq 30) fun t ht => Out.ite (fun _ => Out.bind (word_out ht) fun u hu => Out.ite_pos (by simp only [List.length_cons, List.length_nil]; omega) (ih (i + 1) hu.2 _ (by omega) (by simp [hl]))) fun _ => Out.ite_pos (by simp only [List.length_cons, List.length_nil]; omega) (ih (i + 1) ht _ (by omega) (by simp [hl]))
    have enc : ∀ (ins : S173) {q : S119} (cq : Cur q), Out (SrcQ 32) (fun k => (spec_Encode.f ins).bind fun w => ((spec_l01Once_o1.f 30 q).bind fun t => (if t.1 = true then ((spec_l01Word_o1.f t.2).bind fun u => (if l.length + ([u.1] : List Int).length < 35184372088832 then (spec_l08Source_o1.l6 k 32 d ((i + 1 : Nat) : Int) u.2 (l ++ ([u.1] : List Int))) else none)) else (if l.length + ([w.1] : List Int).length < 35184372088832 then (spec_l08Source_o1.l6 k 32 d ((i + 1 : Nat) : Int) t.2 (l ++ ([w.1] : List Int))) else none)))) := fun ins q cq => by
      obtain ⟨w, hw⟩ := encode_some ins
      rw [hw]
      exact fin w.1 cq
    refine Out.step ?_
    simp only [spec_l08Source_o1.l6, hw]
    refine Out.ite_pos (by omega) (Out.bind (instr_out c) fun t1 h1 => Out.bind (below_out h1 (n := 8) (by omega)) fun t2 h2 => ?_)
    have h2 := h2.2
    refine Out.ite (fun _ => ?_) fun _ => Out.ite (fun _ => ?_) fun _ => Out.ite (fun _ => ?_) fun _ => Out.ite (fun _ => ?_) fun _ => Out.ite (fun _ => ?_) fun _ => ?_
    · exact Out.bind (pick_out h2 (by simp)) fun a ha => Out.bind (below_out ha.2 (n := 5) (by omega)) fun b hb => Out.bind (below_out hb.2 (n := 10) (by omega)) fun e he => enc _ he.2
    · exact Out.bind (below_out h2 (n := 5) (by omega)) fun a ha => Out.bind (below_out ha.2 (n := 4) (by omega)) fun b hb => Out.bind (below_out hb.2 (n := 30) (by omega)) fun e he => enc _ he.2
    · exact Out.bind (below_out h2 (n := 5) (by omega)) fun a ha => enc _ ha.2
    · exact Out.bind (below_out h2 (n := 12) (by omega)) fun a ha => Out.bind (below_out ha.2 (n := 5) (by omega)) fun b hb => Out.bind (below_out hb.2 (n := 5) (by omega)) fun e he => Out.bind (below_out he.2 (n := 5) (by omega)) fun g hg => enc _ hg.2
    · exact Out.bind (pick_out h2 (by simp)) fun a ha => Out.bind (below_out ha.2 (n := 5) (by omega)) fun b hb => Out.bind (below_out hb.2 (n := 5) (by omega)) fun e he => Out.bind (below_out he.2 (n := 5) (by omega)) fun g hg => enc _ hg.2
    · exact enc _ h2
theorem source_of (d : Int) {y : S119} (c : Cur y) : Out (SrcQ 32) (fun k => spec_l08Source_o1.f k 32 d y) := by
  unfold spec_l08Source_o1.f
  exact source_out d 32 0 c [] (by omega) rfl

/-! ### Guests -/
structure GN (ws : List S40) (g : S29) : Prop where
  regs : g.f0.length = 16
  len : g.f2.length = ws.length
  row : ∀ i, i < ws.length → ((g.f2.getD i []).length : Int) = (ws.getD i z40).f1
section
variable (ws : List S40) (h : WinsOk ws)
include h
theorem new_l18 : ∀ (m i : Nat) (y0 y1 : S29), i + m = ws.length → y1.f0.length = 16 → y1.f2.length = i → (∀ j, j < i → ((y1.f2.getD j []).length : Int) = (ws.getD j z40).f1) → Out (GN ws) (fun k => spec_GuestNew.l18 k ws (i : Int) y0 y1) := by
  have hl := h.len
  intro m
  induction m with
  | zero =>
    intro i y0 y1 hi h0 h2 hr
    refine Out.step ?_
    simp only [spec_GuestNew.l18]
    exact Out.ite_neg (by omega) (Out.ret ⟨h0, by omega, fun j hj => hr j (by omega)⟩)
  | succ m ih =>
    intro i y0 y1 hi h0 h2 hr
    have hlt : i < ws.length := by omega
    have hw := window_in.1 (h.win i hlt)
    have row : ∀ (n j : Nat) (y0 : S29) (l : List Int), (j : Int) + n = (ws.getD i z40).f1 → l.length = j → Out (GN ws) (fun k => spec_GuestNew.l26 k ws (i : Int) (j : Int) y0 y1 l) := by
      intro n
      induction n with
      | zero =>
        intro j y0 l hj hl'
        refine Out.step ?_
        simp only [spec_GuestNew.l26, rd_T40, Int.toNat_natCast, wrap_succ hlt (by omega)]
        refine Out.ite_pos ge_0 (Out.ite_pos (lt_in hlt) (Out.ite_neg (by omega) (Out.ite_pos (by simp only [List.length_cons, List.length_nil]; omega) (ih (i + 1) _ _ (by omega) h0 (by show (y1.f2 ++ [l]).length = i + 1; simp [h2]) (fun q hq => ?_)))))
        show (((y1.f2 ++ [l]).getD q []).length : Int) = _
        rcases Nat.lt_or_ge q i with h1 | h1
        · rw [List.getD_eq_getElem?_getD, List.getElem?_append_left (by omega), ← List.getD_eq_getElem?_getD]
          exact hr q h1
        · obtain rfl : q = i := by omega
          rw [List.getD_eq_getElem?_getD, List.getElem?_append_right (by omega), h2, Nat.sub_self]
          show (l.length : Int) = _
          omega
      | succ n ihn =>
        intro j y0 l hj hl'
        refine Out.step ?_
        simp only [spec_GuestNew.l26, rd_T40, Int.toNat_natCast]
        rw [wrap_of (a := (j : Int) + 1) (by omega) (by omega)]
        exact Out.ite_pos ge_0 (Out.ite_pos (lt_in hlt) (Out.ite_pos (by omega) (Out.ite_pos (by simp only [List.length_cons, List.length_nil]; omega) (ihn (j + 1) _ _ (by omega) (by simp [hl'])))))
    refine Out.step ?_
    simp only [spec_GuestNew.l18]
    exact Out.ite_pos (lt_in hlt) (row (ws.getD i z40).f1.toNat 0 _ [] (by omega) rfl)
theorem new_l10 : ∀ (m i : Nat) (y0 y1 : S29), i + m = 16 → y1.f0.length = i → Out (GN ws) (fun k => spec_GuestNew.l10 k ws (i : Int) y0 y1) := by
  intro m
  induction m with
  | zero =>
    intro i y0 y1 hi h0
    refine Out.step ?_
    simp only [spec_GuestNew.l10]
    exact Out.ite_neg (by omega) (new_l18 ws h ws.length 0 _ _ (by omega) (by show y1.f0.length = 16; omega) rfl (fun j hj => absurd hj (by omega)))
  | succ m ih =>
    intro i y0 y1 hi h0
    refine Out.step ?_
    simp only [spec_GuestNew.l10]
    rw [wrap_of (a := (i : Int) + 1) (by omega) (by omega)]
    exact Out.ite_pos (by omega) (Out.ite_pos (by simp only [List.length_cons, List.length_nil]; omega) (ih (i + 1) _ _ (by omega) (by show (y1.f0 ++ [0]).length = i + 1; simp [h0])))
theorem new_guest (e : Int) : Out (GN ws) (fun k => spec_GuestNew.f k ws e) := by
  obtain ⟨b, h1, _, h3⟩ := specWins_ev ws h.len
  rw [h3 h] at h1
  unfold spec_GuestNew.f
  exact Out.bind (Out.ev (Q := fun b => b = true) h1 rfl) fun v hv => Out.ite_pos hv (new_l10 ws h 16 0 _ _ (by omega) rfl)

def PutQ (ws : List S40) (z : List S40 × List Int × List (List Int)) : Prop := z.1 = ws ∧ z.2.1.length = 16 ∧ z.2.2.length = ws.length ∧ ∀ i, i < ws.length → ((z.2.2.getD i []).length : Int) = (ws.getD i z40).f1
theorem put_l8 (h0 : 0 < ws.length) {a : Int} (ha : (ws.getD 0 z40).f0 ≤ a ∧ a + 4 ≤ (ws.getD 0 z40).f0 + (ws.getD 0 z40).f1) (bs : List Int) (hb : bs.length = 4) : ∀ (m i : Nat) (y : S29), i + m = 4 → GN ws y → Out (PutQ ws) (fun k => spec_l08Put_o1.l8 k a 4 0 (i : Int) ws y bs) := by
  have hw := window_in.1 (h.win 0 h0)
  intro m
  induction m with
  | zero =>
    intro i y hi hy
    refine Out.step ?_
    simp only [spec_l08Put_o1.l8]
    exact Out.ite_neg (by omega) (Out.ret ⟨rfl, hy.regs, hy.len, hy.row⟩)
  | succ m ih =>
    intro i y hi hy
    have hr := hy.row 0 h0
    have hlen := hy.len
    refine Out.step ?_
    simp only [spec_l08Put_o1.l8, rd_T40, rd_ListInt]
    have e0 : (0 : Int).toNat = 0 := rfl
    have w1 : wrap64 (a - (ws.getD 0 z40).f0) = a - (ws.getD 0 z40).f0 := wrap_of (by omega) (by omega)
    have w2 : wrap64 (a - (ws.getD 0 z40).f0 + (i : Int)) = a - (ws.getD 0 z40).f0 + (i : Int) := wrap_of (by omega) (by omega)
    have w3 : wrap64 ((i : Int) + 1) = ((i + 1 : Nat) : Int) := by rw [wrap_of (by omega) (by omega)]; omega
    simp only [e0, w1, w2, w3]
    clear e0 w1 w2 w3
    refine Out.ite_pos (by omega) (Out.ite_pos (by omega) (Out.ite_pos (by omega) (Out.ite_pos (by omega) (Out.ite_pos (by omega) (Out.ite_pos ge_0 (Out.ite_pos (by omega) (Out.ite_pos (by omega) (Out.ite_pos (by omega) ?_))))))))
    refine ih (i + 1) _ (by omega) ?_
    refine ⟨hy.regs, by show (y.f2.set 0 _).length = _; rw [List.length_set]; exact hlen, fun q hq => ?_⟩
    show (((y.f2.set 0 _).getD q []).length : Int) = _
    by_cases e : q = 0
    · subst e
      rw [List.getD_eq_getElem?_getD, List.getElem?_set_self (by omega)]
      simp only [Option.getD_some, List.length_set]
      exact hr
    · rw [List.getD_eq_getElem?_getD, List.getElem?_set_ne (fun h => e h.symm), ← List.getD_eq_getElem?_getD]
      exact hy.row q hq
theorem put_out (h0 : 0 < ws.length) {a : Int} (ha : (ws.getD 0 z40).f0 ≤ a ∧ a + 4 ≤ (ws.getD 0 z40).f0 + (ws.getD 0 z40).f1) (pc x : Int) (y : S29) (hy : GN ws y) : Out (PutQ ws) (fun k => spec_l08Put_o1.f k pc a 4 x ws y.f0 y.f2) := by
  have hw := window_in.1 (h.win 0 h0)
  have hl := h.len
  have hat := spec_at ws a (by omega)
  rw [at_only ws h h0 ((has_in (h.win 0 h0) a).2 (by omega))] at hat
  unfold spec_l08Put_o1.f spec_BytesOf.f
  simp only [Option.bind_some]
  refine Out.bind (Out.ev (Q := fun b => b = ((0 : Nat) : Int)) hat rfl) fun v hv => ?_
  subst hv
  have key : ∀ bs : List Int, bs.length = 4 → Out (PutQ ws) (fun k => spec_l08Put_o1.l8 k a 4 ((0 : Nat) : Int) 0 ws (y.f0, pc, y.f2) bs) := fun bs hb => put_l8 ws h h0 ha bs hb 4 0 (y.f0, pc, y.f2) (by omega) ⟨hy.regs, hy.len, hy.row⟩
  exact key _ (by simp only [List.length_cons, List.length_nil])
end

def GsQ (z : List S40 × S29 × S119) : Prop := (z.1.length = 2 ∧ WinsOk z.1 ∧ GN z.1 z.2.1 ∧ (z.1.getD 1 z40).f1 = 64) ∧ Cur z.2.2
section
variable (ws : List S40) (h : WinsOk ws) (h2 : ws.length = 2) (ha : (ws.getD 0 z40).f0 = 64 ∧ (ws.getD 0 z40).f1 = 128) (hb : (ws.getD 1 z40).f1 = 64)
include h h2 ha hb
theorem guest_l22 : ∀ (m i : Nat) {y : S119} (c : Cur y) (y1 g : S29), i + m = 8 → GN ws g → Out GsQ (fun k => spec_l08Guest_o1.l22 k (i : Int) y y1 ws g) := by
  intro m
  induction m with
  | zero =>
    intro i y c y1 g hi hg
    refine Out.step ?_
    simp only [spec_l08Guest_o1.l22]
    exact Out.ite_neg (by omega) (Out.ret ⟨⟨h2, h, hg, hb⟩, c⟩)
  | succ m ih =>
    intro i y c y1 g hi hg
    have hr := hg.regs
    have w3 : wrap64 ((i : Int) + 1) = ((i + 1 : Nat) : Int) := by rw [wrap_of (by omega) (by omega)]; omega
    have n25 : ∀ {q : S119} (cq : Cur q) (y1 g' : S29), GN ws g' → Out GsQ (fun k => spec_l08Guest_o1.l25 k (i : Int) q y1 ws g') := fun cq y1 g' hg' => by
      refine Out.step ?_
      simp only [spec_l08Guest_o1.l25, w3]
      exact ih (i + 1) cq _ _ (by omega) hg'
    have hset : ∀ (g' : S29) (v : Int), GN ws g' → GN ws ((g'.f0.set (i : Int).toNat v, g'.f1, g'.f2) : S29) := fun g' v hg' => ⟨by show (g'.f0.set _ v).length = 16; rw [List.length_set]; exact hg'.regs, hg'.len, hg'.row⟩
    refine Out.step ?_
    simp only [spec_l08Guest_o1.l22, sameO_self]
    refine Out.ite_pos (by omega) (Out.bind (word_out c) fun u hu => Out.ite_pos ge_0 (Out.ite_pos (by omega) (Out.step ?_)))
    simp only [spec_l08Guest_o1.l29, sameO_self, List.length_set]
    have hg1 := hset g u.1 hg
    refine Out.bind (once_out hu.2 2) fun v hv => Out.ite (fun _ => Out.ite_pos (by omega) (Out.bind (below_out hv (n := 64) (by omega)) fun w hw => Out.ite_pos ge_0 (Out.ite_pos (by show (i : Int) < ((g.f0.set _ _).length : Int); rw [List.length_set]; omega) ?_))) fun _ => n25 hv _ _ hg1
    exact n25 hw.2 _ _ (hset _ _ hg1)
theorem guest_l14 (wd : List Int) (hwd : wd.length = 32) : ∀ (m i : Nat) {y : S119} (c : Cur y) (y1 g : S29), i + m = 32 → GN ws g → Out GsQ (fun k => spec_l08Guest_o1.l14 k (i : Int) y y1 ws g wd) := by
  intro m
  induction m with
  | zero =>
    intro i y c y1 g hi hg
    refine Out.step ?_
    simp only [spec_l08Guest_o1.l14]
    exact Out.ite_neg (by omega) (guest_l22 ws h h2 ha hb 7 1 c _ _ (by omega) hg)
  | succ m ih =>
    intro i y c y1 g hi hg
    have w1 : wrap64 (4 * (i : Int)) = 4 * (i : Int) := wrap_of (by omega) (by omega)
    have w2 : wrap64 (64 + 4 * (i : Int)) = 64 + 4 * (i : Int) := wrap_of (by omega) (by omega)
    have w3 : wrap64 ((i : Int) + 1) = ((i + 1 : Nat) : Int) := by rw [wrap_of (by omega) (by omega)]; omega
    refine Out.step ?_
    simp only [spec_l08Guest_o1.l14, w1, w2, w3]
    refine Out.ite_pos (by omega) (Out.ite_pos ge_0 (Out.ite_pos (by omega) (Out.bind (put_out ws h (by omega) (a := 64 + 4 * (i : Int)) (by omega) _ _ g hg) fun z hz => ?_)))
    obtain ⟨z1, z2, z3⟩ := z
    obtain ⟨e1, e2, e3, e4⟩ := hz
    obtain rfl : z1 = ws := e1
    exact ih (i + 1) c _ _ (by omega) ⟨e2, e3, e4⟩
end
theorem wins_drawn {n p : Int} (hn : 0 ≤ n ∧ n < 4) (hp : p = 5 ∨ p = 7) : WinsOk [((64, 128, p) : S40), (192 + 4 * n, 64, 3)] := by
  have h0 : windowB ((64, 128, p) : S40) = true := window_in.2 (by
    show 0 ≤ (64 : Int) ∧ 4 ≤ (128 : Int) ∧ (64 : Int) + 128 ≤ 2048 ∧ (64 : Int).tmod 4 = 0 ∧ (128 : Int).tmod 4 = 0 ∧ 1 ≤ p ∧ p ≤ 7
    refine ⟨by decide, by decide, by decide, by decide, by decide, by omega, by omega⟩)
  have h1 : windowB ((192 + 4 * n, 64, 3) : S40) = true := window_in.2 (by
    show 0 ≤ 192 + 4 * n ∧ 4 ≤ (64 : Int) ∧ 192 + 4 * n + 64 ≤ 2048 ∧ (192 + 4 * n).tmod 4 = 0 ∧ (64 : Int).tmod 4 = 0 ∧ 1 ≤ (3 : Int) ∧ (3 : Int) ≤ 7
    refine ⟨by omega, by decide, by omega, (tmod_4 (by omega)).2 (by omega), by decide, by decide, by decide⟩)
  refine ⟨by show 2 ≤ 4; omega, fun i hi => ?_, fun i hi v hv => ?_⟩
  · have : i = 0 ∨ i = 1 := by have : i < 2 := hi; omega
    rcases this with rfl | rfl
    · exact h0
    · exact h1
  · have : i = 0 ∨ i = 1 := by have : i < 2 := hi; omega
    rcases this with rfl | rfl
    · simp at hv
    · obtain rfl : v = (64, 128, p) := by simpa using hv
      refine (apart_in h0 h1).2 (.inl ?_)
      show (64 : Int) + 128 ≤ 192 + 4 * n
      omega
theorem guest_out {y : S119} (c : Cur y) : Out GsQ (fun k => spec_l08Guest_o1.f k y) := by
  unfold spec_l08Guest_o1.f
  refine Out.bind (below_out c (n := 4) (by omega)) fun t1 h1 => Out.bind (once_out h1.2 3) fun t2 h2 => ?_
  have h1 := h1.1
  have w1 : wrap64 (4 * t1.1) = 4 * t1.1 := wrap_of (by omega) (by omega)
  have w2 : wrap64 (192 + 4 * t1.1) = 192 + 4 * t1.1 := wrap_of (by omega) (by omega)
  simp only [w1, w2]
  refine Out.ite (fun _ => ?_) fun _ => ?_
  · refine Out.ite_pos (by simp) (Out.bind (below_out h2 (n := 4) (by omega)) fun t4 h4 => ?_)
    have hW := wins_drawn h1 (p := 7) (.inr rfl)
    exact Out.bind (new_guest _ hW _) fun g hg => Out.ite_pos (by simp) (Out.bind (source_of _ h4.2) fun s hs => guest_l14 _ hW rfl ⟨rfl, rfl⟩ rfl _ hs.1 32 0 hs.2 _ _ (by omega) hg)
  · refine Out.bind (below_out h2 (n := 4) (by omega)) fun t4 h4 => ?_
    have hW := wins_drawn h1 (p := 5) (.inl rfl)
    exact Out.bind (new_guest _ hW _) fun g hg => Out.ite_pos (by simp) (Out.bind (source_of _ h4.2) fun s hs => guest_l14 _ hW rfl ⟨rfl, rfl⟩ rfl _ hs.1 32 0 hs.2 _ _ (by omega) hg)

def AnQ (z : List S40 × S29 × S119) : Prop := z.1.length = 2 ∧ Cur z.2.2
theorem anyGuest_out {y : S119} (c : Cur y) : Out AnQ (fun k => spec_l08Any_o1.f k y) := by
  unfold spec_l08Any_o1.f
  refine Out.bind (guest_out c) fun t1 h1 => Out.bind (below_out h1.2 (n := 22) (by omega)) fun t2 h2 => ?_
  obtain ⟨⟨e1, e2, e3, e4⟩, _⟩ := h1
  have hr := e3.regs
  have hl := e3.len
  have hrow := e3.row 1 (by omega)
  have h2 := h2.2
  refine Out.ite (fun _ => Out.bind (pick_out h2 (by simp)) fun u hu => Out.ret ⟨e1, hu.2⟩) fun _ => Out.ite (fun _ => Out.ite_pos (by decide) (Out.ite_pos (by omega) (Out.ret ⟨e1, h2⟩))) fun _ => Out.ite (fun _ => Out.ite_pos (by omega) (Out.ret ⟨e1, h2⟩)) fun _ => Out.ite (fun _ => Out.ite_pos (by decide) (Out.ite_pos (by omega) (Out.ret ⟨e1, h2⟩))) fun _ => Out.ite (fun _ => Out.ite_pos (by omega) (Out.ite_pos (by decide) (Out.ite_pos (by omega) (Out.ite_pos (by omega) (Out.ret ⟨e1, h2⟩))))) fun _ => Out.ite (fun _ => Out.ite_pos (by omega) (Out.ite_pos (by omega) (Out.ret ⟨by show (t1.1.set 1 _).length = 2; rw [List.length_set]; exact e1, h2⟩))) fun _ => Out.ret ⟨e1, h2⟩

structure PkQ (z : List S40 × S29 × Int × Int × Int) : Prop where
  len : z.1.length = 2
  addr : 0 ≤ z.2.2.1 ∧ z.2.2.1 ≤ 4294967295
  word : 0 ≤ z.2.2.2.2 ∧ z.2.2.2.2 ≤ 4294967295
theorem where_out {y : S119} (c : Cur y) (ws : List S40) (hl : ws.length = 2) : Out (fun z => (0 ≤ z.1 ∧ z.1 ≤ 4294967295) ∧ Cur z.2.1 ∧ z.2.2 = ws) (fun _ => spec_l08Where_o1.f y ws) := by
  have hw : ∀ n : Int, 0 ≤ IntKind.wrap .u32 n ∧ IntKind.wrap .u32 n ≤ 4294967295 := fun n => by rw [wrap_u32]; omega
  unfold spec_l08Where_o1.f spec_l07Addr_o1.f
  simp only [lenZ_eq, sameO_self]
  refine Out.bind (Q := fun z => Cur z.2.1 ∧ z.2.2 = ws) ?_ fun z hz => Out.ret ⟨hw _, hz⟩
  refine Out.ite_neg (by omega) (Out.bind (once_out c 4) fun t2 h2 => Out.ite (fun _ => Out.bind (below_out h2 (n := 600) (by omega)) fun t3 h3 => Out.ret ⟨h3.2, rfl⟩) fun _ => Out.bind (below_out h2 (n := (ws.length : Int)) (by omega)) fun t4 h4 => Out.ite_pos h4.1.1 (Out.ite_pos h4.1.2 (Out.bind (pick_out h4.2 (by simp)) fun t5 h5 => Out.ret ⟨h5.2, rfl⟩)))
theorem drawPoke_out (code : List Int) (hc : code.length ≤ 1048576) : Out PkQ (fun k => spec_DrawPoke.f k code) := by
  unfold spec_DrawPoke.f
  simp only [sameO_self]
  refine Out.bind (new_out code (by omega)) fun y hy => Out.bind (anyGuest_out hy) fun t2 h2 => Out.bind (where_out h2.2 t2.1 h2.1) fun t3 h3 => Out.bind (pick_out h3.2.1 (by simp)) fun t4 h4 => Out.bind (word_out h4.2) fun t5 h5 => Out.ret ⟨by show t3.2.2.length = 2; rw [h3.2.2]; exact h2.1, h3.1, h5.1⟩
end Go.Proofs.Ytgnhojiogkeepaa.PPo
