/- Plain Lean over the printed functions: images and commands that are drawn. -/
import Derived.Test.YtcjfheidmlcbfaaGreatDoorSD3
set_option linter.unusedVariables false
set_option linter.unusedSimpArgs false
set_option linter.unusedSectionVars false
namespace Go.Proofs.YtcjfheidmlcbfaaGreatDoor.PSr
open Go Go.RowKit Go.Proofs.YtcjfheidmlcbfaaGreatDoor.V Go.Proofs.YtcjfheidmlcbfaaGreatDoor.C

/-! ### Instructions -/
theorem form_some (a : Int) : ∃ v, spec_FormOf.f a = some v := by
  unfold spec_FormOf.f
  try simp only [lenZ_eq]
  simp only [l01In_some, Option.bind_some]
  by_cases c : inB a 0 32 = true
  · have := in_iff.1 c
    rw [if_pos c]
    unfold spec_l02Forms.f
    try simp only [lenZ_eq]
    simp only [Option.bind_some, List.length_cons, List.length_nil]
    rw [if_pos (by omega), if_pos (by omega)]
    exact ⟨_, rfl⟩
  · rw [if_neg c]; exact ⟨_, rfl⟩
theorem field_some (a b c d e : Int) (h : b ≠ 0) : ∃ v, spec_l02Field.f a b c d e = some v := by
  unfold spec_l02Field.f
  try simp only [lenZ_eq]
  rw [if_neg h]
  split
  · exact ⟨_, rfl⟩
  · simp only [l01In_some, Option.bind_some]; exact ⟨_, rfl⟩
theorem instr_some (i : S264) : ∃ v, spec_InstrOk.f i = some v := by
  unfold spec_InstrOk.f
  try simp only [lenZ_eq]
  obtain ⟨f, hf⟩ := form_some i.f0
  obtain ⟨a, ha⟩ := field_some f 1 i.f1 0 15 (by decide)
  obtain ⟨b, hb⟩ := field_some f 2 i.f2 0 15 (by decide)
  obtain ⟨c, hc⟩ := field_some f 4 i.f3 0 15 (by decide)
  obtain ⟨d, hd⟩ := field_some f 8 i.f4 (-8192) 8191 (by decide)
  simp only [hf, ha, hb, hc, hd, Option.bind_some]
  split
  · split
    · split
      · split
        · exact ⟨_, rfl⟩
        · exact ⟨_, rfl⟩
      · exact ⟨_, rfl⟩
    · exact ⟨_, rfl⟩
  · exact ⟨_, rfl⟩
theorem encode_some (i : S264) : ∃ v, spec_Encode.f i = some v := by
  unfold spec_Encode.f
  try simp only [lenZ_eq]
  obtain ⟨v, hv⟩ := instr_some i
  have hm : ∃ m, spec_l01Mod.f i.f4 16384 = some m := by
    unfold spec_l01Mod.f
    try simp only [lenZ_eq]
    rw [if_neg (by decide)]
    split <;> exact ⟨_, rfl⟩
  obtain ⟨m, hm⟩ := hm
  simp only [hv, hm, Option.bind_some]
  split <;> exact ⟨_, rfl⟩
def CurQ {α : Type} (z : α × S162) : Prop := Cur z.2
theorem instr_l33 {y : S162} (c : Cur y) (a b : S264) : Out CurQ (fun k => spec_l02Instr_o1.l33 k y a b) := by
  refine Out.step ?_
  simp only [lenZ_eq, spec_l02Instr_o1.l33]
  exact Out.ret c
theorem instr_imm {y : S162} (c : Cur y) (a : S264) (f g h : Int → S264) : Out CurQ (fun k => (spec_l01Below_o1.f 17 y).bind fun t7 => ((spec_l01Below_o1.f 8 t7.2).bind fun t8 => (if t8.1 = 0 then ((spec_l01PickInt_o1.f t8.2 ([(-8192), 8191, 0] : List Int)).bind fun t9 => (spec_l02Instr_o1.l33 k t9.2.1 a (f t9.1))) else (if t8.1 = 1 then ((spec_l01Below_o1.f 16384 t8.2).bind fun t10 => (spec_l02Instr_o1.l33 k t10.2 a (g t10.1))) else (spec_l02Instr_o1.l33 k t8.2 a (h t7.1)))))) :=
  Out.bind (below_out c (n := 17) (by omega)) fun t7 h7 => Out.bind (below_out h7.2 (n := 8) (by omega)) fun t8 h8 => Out.ite (fun _ => Out.bind (pick_out h8.2 (by simp)) fun t9 h9 => instr_l33 h9.2 _ _) fun _ => Out.ite (fun _ => Out.bind (below_out h8.2 (n := 16384) (by omega)) fun t10 h10 => instr_l33 h10.2 _ _) fun _ => instr_l33 h8.2 _ _
theorem instr_l15 {y : S162} (c : Cur y) (x : Int) (a b : S264) : Out CurQ (fun k => spec_l02Instr_o1.l15 k x y a b) := by
  refine Out.step ?_
  simp only [lenZ_eq, spec_l02Instr_o1.l15]
  refine Out.ite (fun _ => Out.bind (below_out c (n := 16) (by omega)) fun t6 h6 => Out.ite (fun _ => ?_) fun _ => instr_l33 h6.2 _ _) fun _ => Out.ite (fun _ => ?_) fun _ => instr_l33 c _ _
  · exact instr_imm h6.2 a (fun i => (b.f0, b.f1, b.f2, t6.1, i)) (fun i => (b.f0, b.f1, b.f2, t6.1, wrap64 (i - 8192))) (fun i => (b.f0, b.f1, b.f2, t6.1, wrap64 (i - 8)))
  · exact instr_imm c a (fun i => (b.f0, b.f1, b.f2, b.f3, i)) (fun i => (b.f0, b.f1, b.f2, b.f3, wrap64 (i - 8192))) (fun i => (b.f0, b.f1, b.f2, b.f3, wrap64 (i - 8)))
theorem instr_out {y : S162} (c : Cur y) : Out CurQ (fun k => spec_l02Instr_o1.f k y) := by
  unfold spec_l02Instr_o1.f
  try simp only [lenZ_eq]
  refine Out.bind (below_out c (n := 33) (by omega)) fun t1 h1 => ?_
  obtain ⟨v, hv⟩ := form_some t1.1
  simp only [hv, Option.bind_some]
  refine Out.ite (fun _ => Out.bind (below_out h1.2 (n := 16) (by omega)) fun t3 h3 => Out.ite (fun _ => Out.bind (below_out h3.2 (n := 16) (by omega)) fun t4 h4 => instr_l15 h4.2 _ _ _) fun _ => instr_l15 h3.2 _ _ _) fun _ => Out.ite (fun _ => Out.bind (below_out h1.2 (n := 16) (by omega)) fun t5 h5 => instr_l15 h5.2 _ _ _) fun _ => instr_l15 h1.2 _ _ _


/-! ### Words -/
theorem wrap_u32 (n : Int) : IntKind.wrap .u32 n = n % 4294967296 := by
  simp [IntKind.wrap, IntKind.bits, IntKind.signed]

/-! ### What is drawn -/
theorem word_out {y : S162} (c : Cur y) : Out (fun z => (0 ≤ z.1 ∧ z.1 ≤ 4294967295) ∧ Cur z.2) (fun _ => spec_l01Word_o1.f y) := by
  have hw : ∀ n : Int, 0 ≤ IntKind.wrap .u32 n ∧ IntKind.wrap .u32 n ≤ 4294967295 := fun n => by rw [wrap_u32]; omega
  unfold spec_l01Word_o1.f
  try simp only [lenZ_eq]
  refine Out.bind (below_out c (n := 4) (by omega)) fun z hz => Out.ite (fun _ => Out.bind (pick_out hz.2 (by simp)) fun u hu => Out.ret ⟨hw _, hu.2⟩) fun _ => Out.ite (fun _ => Out.bind (below_out hz.2 (n := 300) (by omega)) fun u hu => Out.ret ⟨hw _, hu.2⟩) fun _ => Out.bind (below_out hz.2 (n := 65536) (by omega)) fun u hu => Out.bind (below_out hu.2 (n := 65536) (by omega)) fun v hv => Out.ret ⟨hw _, hv.2⟩
def WsQ (n : Int) (z : List Int × S162) : Prop := ((z.1.length : Int) ≤ n ∧ ∀ x ∈ z.1, 0 ≤ x ∧ x ≤ 4294967295) ∧ Cur z.2
theorem words_out {n : Int} (hn : 0 ≤ n ∧ n ≤ 1000) (m : Nat) : ∀ (i : Nat) {y : S162} (c : Cur y) (l : List Int), (i : Int) + m = n → l.length = i → (∀ x ∈ l, 0 ≤ x ∧ x ≤ 4294967295) → Out (WsQ n) (fun k => spec_l01Words_o1.l6 k n (i : Int) y l) := by
  induction m with
  | zero =>
    intro i y c l hi hl hx
    refine Out.step ?_
    simp only [lenZ_eq, spec_l01Words_o1.l6]
    exact Out.ite_neg (by omega) (Out.ret ⟨⟨by show (l.length : Int) ≤ n; omega, hx⟩, c⟩)
  | succ m ih =>
    intro i y c l hi hl hx
    refine Out.step ?_
    simp only [lenZ_eq, spec_l01Words_o1.l6, wrap_of (a := (i : Int) + 1) (by omega) (by omega)]
    refine Out.ite_pos (by omega) (Out.bind (word_out c) fun z hz => Out.ite_pos (by simp only [List.length_cons, List.length_nil]; omega) ?_)
    exact ih (i + 1) hz.2 (l ++ [z.1]) (by omega) (by simp [hl]) (fun x hm => by
      rcases List.mem_append.1 hm with h | h
      · exact hx x h
      · rw [List.mem_singleton.1 h]; exact hz.1)
theorem words_of {n : Int} (hn : 0 ≤ n ∧ n ≤ 1000) {y : S162} (c : Cur y) : Out (WsQ n) (fun k => spec_l01Words_o1.f k n y) := by
  unfold spec_l01Words_o1.f
  try simp only [lenZ_eq]
  exact words_out hn n.toNat 0 c [] (by omega) rfl (by simp)

/-! ### Programs -/
def SrcQ (n : Nat) (z : List Int × S162) : Prop := z.1.length = n ∧ Cur z.2
theorem source_out (N : Nat) (hN : N ≤ 1000) (d : Int) (m : Nat) : ∀ (i : Nat) {y : S162} (c : Cur y) (l : List Int), i + m = N → l.length = i → Out (SrcQ N) (fun k => spec_l08Source_o1.l6 k (N : Int) d (i : Int) y l) := by
  induction m with
  | zero =>
    intro i y c l hi hl
    refine Out.step ?_
    simp only [lenZ_eq, spec_l08Source_o1.l6]
    exact Out.ite_neg (by omega) (Out.ret ⟨by show l.length = N; omega, c⟩)
  | succ m ih =>
    intro i y c l hi hl
    have hw : wrap64 ((i : Int) + 1) = ((i + 1 : Nat) : Int) := by rw [wrap_of (by omega) (by omega)]; omega
    have fin : ∀ (w : Int) {q : S162} (cq : Cur q), Out (SrcQ N) (fun k => (spec_l01Once_o1.f 30 q).bind fun t => (if t.1 = true then ((spec_l01Word_o1.f t.2).bind fun u => (if l.length + ([u.1] : List Int).length < 35184372088832 then (spec_l08Source_o1.l6 k (N : Int) d ((i + 1 : Nat) : Int) u.2 (l ++ ([u.1] : List Int))) else none)) else (if l.length + ([w] : List Int).length < 35184372088832 then (spec_l08Source_o1.l6 k (N : Int) d ((i + 1 : Nat) : Int) t.2 (l ++ ([w] : List Int))) else none))) := fun w q cq =>
      Out.bind (once_out cq 30) fun t ht => Out.ite (fun _ => Out.bind (word_out ht) fun u hu => Out.ite_pos (by simp only [List.length_cons, List.length_nil]; omega) (ih (i + 1) hu.2 _ (by omega) (by simp [hl]))) fun _ => Out.ite_pos (by simp only [List.length_cons, List.length_nil]; omega) (ih (i + 1) ht _ (by omega) (by simp [hl]))
    have enc : ∀ (ins : S264) {q : S162} (cq : Cur q), Out (SrcQ N) (fun k => (spec_Encode.f ins).bind fun w => ((spec_l01Once_o1.f 30 q).bind fun t => (if t.1 = true then ((spec_l01Word_o1.f t.2).bind fun u => (if l.length + ([u.1] : List Int).length < 35184372088832 then (spec_l08Source_o1.l6 k (N : Int) d ((i + 1 : Nat) : Int) u.2 (l ++ ([u.1] : List Int))) else none)) else (if l.length + ([w.1] : List Int).length < 35184372088832 then (spec_l08Source_o1.l6 k (N : Int) d ((i + 1 : Nat) : Int) t.2 (l ++ ([w.1] : List Int))) else none)))) := fun ins q cq => by
      obtain ⟨w, hw⟩ := encode_some ins
      rw [hw]
      exact fin w.1 cq
    refine Out.step ?_
    simp only [lenZ_eq, spec_l08Source_o1.l6, hw]
    refine Out.ite_pos (by omega) (Out.bind (instr_out c) fun t1 h1 => Out.bind (below_out h1 (n := 8) (by omega)) fun t2 h2 => ?_)
    have h2 := h2.2
    refine Out.ite (fun _ => ?_) fun _ => Out.ite (fun _ => ?_) fun _ => Out.ite (fun _ => ?_) fun _ => Out.ite (fun _ => ?_) fun _ => Out.ite (fun _ => ?_) fun _ => ?_
    · exact Out.bind (pick_out h2 (by simp)) fun a ha => Out.bind (below_out ha.2 (n := 5) (by omega)) fun b hb => Out.bind (below_out hb.2 (n := 10) (by omega)) fun e he => enc _ he.2
    · exact Out.bind (below_out h2 (n := 5) (by omega)) fun a ha => Out.bind (below_out ha.2 (n := 4) (by omega)) fun b hb => Out.bind (below_out hb.2 (n := 30) (by omega)) fun e he => enc _ he.2
    · exact Out.bind (below_out h2 (n := 5) (by omega)) fun a ha => enc _ ha.2
    · exact Out.bind (below_out h2 (n := 12) (by omega)) fun a ha => Out.bind (below_out ha.2 (n := 5) (by omega)) fun b hb => Out.bind (below_out hb.2 (n := 5) (by omega)) fun e he => Out.bind (below_out he.2 (n := 5) (by omega)) fun g hg => enc _ hg.2
    · exact Out.bind (pick_out h2 (by simp)) fun a ha => Out.bind (below_out ha.2 (n := 5) (by omega)) fun b hb => Out.bind (below_out hb.2 (n := 5) (by omega)) fun e he => Out.bind (below_out he.2 (n := 5) (by omega)) fun g hg => enc _ hg.2
    · exact enc _ h2
theorem source_of (N : Nat) (hN : N ≤ 1000) (d : Int) {y : S162} (c : Cur y) : Out (SrcQ N) (fun k => spec_l08Source_o1.f k (N : Int) d y) := by
  unfold spec_l08Source_o1.f
  try simp only [lenZ_eq]
  exact source_out N hN d N 0 c [] (by omega) rfl

/-! ### Images -/
abbrev TT := S33
abbrev CC := S162
/-- Each partition has two windows, the sizes of which are right. -/
structure Wins (t : TT) : Prop where
  two : ∀ p ∈ t.f7, p.f3.length = 2 ∧ ∀ w ∈ p.f3, 4 ≤ w.f1 ∧ w.f1 ≤ 2048
  parts : 1 ≤ t.f7.length ∧ t.f7.length ≤ 6
theorem Tabs.wins {n : Int} {t : TT} (h : Tabs n t) (hn : 2 ≤ n ∧ n ≤ 6) : Wins t := by
  obtain ⟨e, hr⟩ := h.rows
  have hp := h.parts
  refine ⟨fun p hm => ⟨(hr.part p hm).2.1, fun w hw => ?_⟩, by omega⟩
  have hwm : w ∈ t.f7.flatMap (·.f3) := List.mem_flatMap.2 ⟨p, hm, hw⟩
  have := window_in.1 (hr.win w hwm).1
  omega
def lst (t : TT) : List S71 × List Int × List S77 × List S182 := (t.f7, t.f8, t.f9, t.f10)
def WQ (t : TT) (N : Nat) (z : List Int × CC × List S71 × List Int × List S77 × List S182) : Prop := z.1.length = N ∧ Cur z.2.1 ∧ z.2.2 = lst t
theorem words_l47 (t : TT) (N : Nat) (h4 : 4 < N) (x : Int) {y : CC} (c : Cur y) (h : List Int) (hl : h.length = N) : Out (WQ t N) (fun k => spec_l17Words_o1.l47 k x y t.f7 t.f8 t.f9 t.f10 h) := by
  refine Out.step ?_
  simp only [lenZ_eq, spec_l17Words_o1.l47]
  obtain ⟨a, ha⟩ := encode_some ((29, 5, 0, 0, 1) : S264)
  obtain ⟨b, hb⟩ := encode_some ((29, 5, 0, 0, 0) : S264)
  obtain ⟨d, hd⟩ := encode_some ((13, 5, 5, 0, 1) : S264)
  simp only [ha, hb, hd, Option.bind_some]
  refine Out.ite_pos (by omega) (Out.ite_pos (by simp; omega) (Out.ite_pos (by simp; omega) (Out.ite_pos (by simp; omega) (Out.ret ⟨by simp [hl], c, rfl⟩))))
set_option maxHeartbeats 2000000 in
theorem words_l8 (t : TT) (p : Nat) (hp : p < t.f7.length) (hw : (t.f7.getD p z71).f3.length = 2) (N : Nat) (hN : N ≤ 1000) (m : Nat) : ∀ (i : Nat) {y : CC} (c : Cur y) (h : List Int), i + m = N → h.length = N → Out (WQ t N) (fun k => spec_l17Words_o1.l8 k (p : Int) (N : Int) (i : Int) y t h) := by
  induction m with
  | zero =>
    intro i y c h hi hl
    refine Out.step ?_
    have q0 : (0 : Int) ≤ (p : Int) := by omega
    have q1 : (p : Int) < (t.f7.length : Int) := by omega
    have q2 : (0 : Int) < ((rd_T71 t.f7 (p : Int)).f3.length : Int) := by show (0 : Int) < ((t.f7.getD p z71).f3.length : Int); omega
    simp only [lenZ_eq, spec_l17Words_o1.l8, q0, q1, q2, if_true, sameO_self]
    refine Out.ite_neg (by omega) (Out.ite (fun h4 => ?_) fun _ => Out.ret ⟨hl, c, rfl⟩)
    have hn1 : wrap64 ((N : Int) - 1) = (N : Int) - 1 := wrap_of (by omega) (by omega)
    simp only [hn1]
    refine Out.bind (below_out c (n := (N : Int) - 1) (by omega)) fun u hu => ?_
    obtain ⟨a, ha⟩ := encode_some ((22, 6, 0, 0, wrap64 (wrap64 (0 - u.1) - 1)) : S264)
    simp only [ha, Option.bind_some]
    refine Out.ite_pos (by omega) (Out.ite_pos (by omega) (Out.bind (once_out hu.2 2) fun v hv => Out.ite (fun _ => Out.bind (below_out hv (n := 16) (by omega)) fun w hw' => ?_) fun _ => Out.ret ⟨by simp [hl], hv, rfl⟩))
    obtain ⟨b, hb⟩ := encode_some ((13, 5, 0, 0, wrap64 (((rd_T71 t.f7 (p : Int)).f3.getD 0 z66).f0 + wrap64 (4 * w.1))) : S264)
    simp only [hb, Option.bind_some]
    exact words_l47 t N (by omega) _ hw'.2 _ (by simp [hl])
  | succ m ih =>
    intro i y c h hi hl
    have hi1 : wrap64 ((i : Int) + 1) = ((i + 1 : Nat) : Int) := by rw [wrap_of (by omega) (by omega)]; omega
    have l33 : ∀ (ins : S264) {q : CC} (cq : Cur q), Out (WQ t N) (fun k => spec_l17Words_o1.l33 k (p : Int) (N : Int) (i : Int) q t h ins) := by
      intro ins q cq
      refine Out.step ?_
      obtain ⟨a, ha⟩ := encode_some ins
      simp only [lenZ_eq, spec_l17Words_o1.l33, ha, Option.bind_some, hi1]
      exact Out.ite_pos (by omega) (Out.ite_pos (by omega) (ih (i + 1) cq _ (by omega) (by simp [hl])))
    refine Out.step ?_
    simp only [lenZ_eq, spec_l17Words_o1.l8, sameO_self, hi1]
    refine Out.ite_pos (by omega) (Out.bind (below_out c (n := 7) (by omega)) fun u hu => ?_)
    have hu := hu.2
    refine Out.ite (fun _ => ?_) fun _ => Out.ite (fun _ => ?_) fun _ => Out.ite (fun _ => ?_) fun _ => Out.ite (fun _ => ?_) fun _ => ?_
    · exact Out.bind (pick_out hu (by simp)) fun a ha => Out.bind (below_out ha.2 (n := 5) (by omega)) fun b hb => Out.bind (below_out hb.2 (n := 5) (by omega)) fun d hd => Out.bind (below_any hd.2 _) fun e he => l33 _ he.2.2.2
    · exact Out.bind (below_out hu (n := 5) (by omega)) fun b hb => Out.bind (below_out hb.2 (n := 5) (by omega)) fun d hd => Out.bind (below_any hd.2 _) fun e he => l33 _ he.2.2.2
    · exact Out.bind (pick_out hu (by simp)) fun a ha => Out.bind (below_out ha.2 (n := 5) (by omega)) fun b hb => Out.bind (below_out hb.2 (n := 8) (by omega)) fun d hd => l33 _ hd.2
    · exact Out.bind (pick_out hu (by simp)) fun a ha => l33 _ ha.2
    · exact ih (i + 1) hu h (by omega) hl
theorem img_words (t : TT) (p : Nat) (hp : p < t.f7.length) (hw : (t.f7.getD p z71).f3.length = 2) (N : Nat) (hN : N ≤ 1000) {y : CC} (c : Cur y) :
    Out (WQ t N) (fun k => spec_l17Words_o1.f k t.f0 t.f1.f0 t.f1.f1 t.f1.f2 t.f2 t.f3.f0 t.f3.f1 t.f3.f2 t.f3.f3 t.f3.f4 t.f3.f5 t.f3.f6 t.f4 t.f5 t.f6 (p : Int) (N : Int) y t.f7 t.f8 t.f9 t.f10) := by
  unfold spec_l17Words_o1.f
  try simp only [lenZ_eq]
  refine Out.ite_pos (by omega) (Out.ite_pos (by omega) (Out.ite_pos (by show (1 : Int) < ((t.f7.getD p z71).f3.length : Int); omega) ?_))
  exact Out.bind (source_of N hN _ c) fun z hz => words_l8 t p hp hw N hN N 0 hz.2 z.1 (by omega) hz.1
def IQ (t : TT) (z : List (List Int) × CC × List S71 × List Int × List S77 × List S182) : Prop := z.1.length = 2 ∧ Cur z.2.1 ∧ z.2.2 = lst t
theorem img_l24 (t : TT) (p : Int) (x : Nat) (hx : x < 2) (ws : List Int) (hws : ws.length ≤ 1000) (h6 : List (List Int)) (hh : h6.length = x)
    (hc : ∀ {y : CC} (c : Cur y) (h : List (List Int)), h.length = x + 1 → Out (IQ t) (fun k => spec_l17Image_o1.l6 k p ((x + 1 : Nat) : Int) y t h)) (m : Nat) :
    ∀ (i : Nat) {y : CC} (c : Cur y) (h7 : List Int), i + m = ws.length → h7.length = 4 * i → Out (IQ t) (fun k => spec_l17Image_o1.l24 k p (x : Int) (i : Int) y t h6 h7 ws) := by
  induction m with
  | zero =>
    intro i y c h7 hi hl
    refine Out.step ?_
    have hx1 : wrap64 ((x : Int) + 1) = ((x + 1 : Nat) : Int) := by rw [wrap_of (by omega) (by omega)]; omega
    simp only [lenZ_eq, spec_l17Image_o1.l24, hx1]
    exact Out.ite_neg (by omega) (Out.ite_pos (by simp; omega) (hc c _ (by simp [hh])))
  | succ m ih =>
    intro i y c h7 hi hl
    refine Out.step ?_
    have hi1 : wrap64 ((i : Int) + 1) = ((i + 1 : Nat) : Int) := by rw [wrap_of (by omega) (by omega)]; omega
    simp only [lenZ_eq, spec_l17Image_o1.l24, hi1, spec_BytesOf.f, Option.bind_some]
    exact Out.ite_pos (by omega) (Out.ite_pos (by omega) (Out.ite_pos (by omega) (Out.ite_pos (by simp; omega) (ih (i + 1) c _ (by omega) (by simp; omega)))))
theorem img_l6 (t : TT) (ht : Wins t) (p : Nat) (hp : p < t.f7.length) (m : Nat) : ∀ (x : Nat) {y : CC} (c : Cur y) (h : List (List Int)), x + m = 2 → h.length = x → Out (IQ t) (fun k => spec_l17Image_o1.l6 k (p : Int) (x : Int) y t h) := by
  have hm := ht.two _ (getD_mem (z := z71) hp)
  have hr : rd_T71 t.f7 (p : Int) = t.f7.getD p z71 := rfl
  induction m with
  | zero =>
    intro x y c h hx hl
    refine Out.step ?_
    simp only [lenZ_eq, spec_l17Image_o1.l6, hr, hm.1]
    exact Out.ite_pos (by omega) (Out.ite_pos (by omega) (Out.ite_neg (by omega) (Out.ret ⟨by show h.length = 2; omega, c, rfl⟩)))
  | succ m ih =>
    intro x y c h hx hl
    have hw := hm.2 ((t.f7.getD p z71).f3.getD x z66) (getD_mem (by omega))
    have hrw : rd_T66 (t.f7.getD p z71).f3 (x : Int) = (t.f7.getD p z71).f3.getD x z66 := rfl
    generalize (t.f7.getD p z71).f3.getD x z66 = w at hw hrw
    obtain ⟨N, hN⟩ : ∃ N : Nat, wrap64 (Int.tdiv w.f1 4) = (N : Int) ∧ N ≤ 600 := by
      refine ⟨(w.f1 / 4).toNat, ?_, by omega⟩
      rw [Int.tdiv_eq_ediv_of_nonneg (by omega), wrap_of (by omega) (by omega)]
      omega
    refine Out.step ?_
    simp only [lenZ_eq, spec_l17Image_o1.l6, hr, hm.1, hrw, hN.1]
    have hc : ∀ {y : CC} (c : Cur y) (h : List (List Int)), h.length = x + 1 → Out (IQ t) (fun k => spec_l17Image_o1.l6 k (p : Int) ((x + 1 : Nat) : Int) y t h) := fun c h hl => ih (x + 1) c h (by omega) hl
    refine Out.ite_pos (by omega) (Out.ite_pos (by omega) (Out.ite_pos (by omega) (Out.ite_pos (by omega) (Out.ite_pos (by omega) (Out.ite_pos (by omega) (Out.ite_pos (by omega) (Out.ite (fun _ => ?_) fun _ => ?_)))))))
    · refine Out.bind (img_words t p hp hm.1 N (by omega) c) fun z hz => ?_
      obtain ⟨z1, z2, z3, z4, z5, z6⟩ := z
      obtain ⟨h1, h2, h3⟩ := hz
      simp only [lst, Prod.mk.injEq] at h3
      obtain ⟨rfl, rfl, rfl, rfl⟩ := h3
      have h1 : z1.length = N := h1
      exact img_l24 t p x (by omega) z1 (by omega) h hl hc z1.length 0 h2 [] (by omega) rfl
    · refine Out.bind (words_of (n := (N : Int)) (by omega) c) fun z hz => ?_
      have h1 := hz.1.1
      exact img_l24 t p x (by omega) z.1 (by omega) h hl hc z.1.length 0 hz.2 [] (by omega) rfl
theorem img_of (t : TT) (ht : Wins t) (p : Nat) (hp : p < t.f7.length) {y : CC} (c : Cur y) :
    Out (IQ t) (fun k => spec_l17Image_o1.f k t.f0 t.f1.f0 t.f1.f1 t.f1.f2 t.f2 t.f3.f0 t.f3.f1 t.f3.f2 t.f3.f3 t.f3.f4 t.f3.f5 t.f3.f6 t.f4 t.f5 t.f6 (p : Int) y t.f7 t.f8 t.f9 t.f10) := by
  unfold spec_l17Image_o1.f
  try simp only [lenZ_eq]
  exact img_l6 t ht p hp 2 0 c [] (by omega) rfl
def ImQ (t : TT) (z : List (List (List Int)) × CC × List S71 × List Int × List S77 × List S182) : Prop := (z.1.length = t.f7.length ∧ ∀ x ∈ z.1, x.length = 2) ∧ Cur z.2.1 ∧ z.2.2 = lst t
theorem imgs_l6 (t : TT) (ht : Wins t) (m : Nat) : ∀ (i : Nat) {y : CC} (c : Cur y) (h : List (List (List Int))), i + m = t.f7.length → h.length = i → (∀ x ∈ h, x.length = 2) → Out (ImQ t) (fun k => spec_l19Images_o1.l6 k (i : Int) y t h) := by
  have h6 := ht.parts
  induction m with
  | zero =>
    intro i y c h hi hl hx
    refine Out.step ?_
    simp only [lenZ_eq, spec_l19Images_o1.l6]
    exact Out.ite_neg (by omega) (Out.ret ⟨⟨by show h.length = _; omega, hx⟩, c, rfl⟩)
  | succ m ih =>
    intro i y c h hi hl hx
    have hi1 : wrap64 ((i : Int) + 1) = ((i + 1 : Nat) : Int) := by rw [wrap_of (by omega) (by omega)]; omega
    refine Out.step ?_
    simp only [lenZ_eq, spec_l19Images_o1.l6, hi1]
    refine Out.ite_pos (by omega) (Out.bind (img_of t ht i (by omega) c) fun z hz => ?_)
    obtain ⟨z1, z2, z3, z4, z5, z6⟩ := z
    obtain ⟨h1, h2, h3⟩ := hz
    simp only [lst, Prod.mk.injEq] at h3
    obtain ⟨rfl, rfl, rfl, rfl⟩ := h3
    exact Out.ite_pos (by simp; omega) (ih (i + 1) h2 (h ++ [z1]) (by omega) (by simp [hl]) fun x hm => by
      rcases List.mem_append.1 hm with hm | hm
      · exact hx x hm
      · rw [List.mem_singleton.1 hm]; exact h1)
theorem imgs_of (t : TT) (ht : Wins t) {y : CC} (c : Cur y) :
    Out (ImQ t) (fun k => spec_l19Images_o1.f k t.f0 t.f1.f0 t.f1.f1 t.f1.f2 t.f2 t.f3.f0 t.f3.f1 t.f3.f2 t.f3.f3 t.f3.f4 t.f3.f5 t.f3.f6 t.f4 t.f5 t.f6 y t.f7 t.f8 t.f9 t.f10) := by
  unfold spec_l19Images_o1.f
  try simp only [lenZ_eq]
  exact imgs_l6 t ht t.f7.length 0 c [] (by omega) rfl (fun x hx => by cases hx)

/-! ### Commands -/
abbrev CmdOk (c : S85) : Prop := 0 ≤ c.f2 ∧ c.f2 ≤ 4294967295
structure Cmds (l : List S85) (n : Nat) : Prop where
  len : l.length ≤ n
  ok : ∀ c ∈ l, CmdOk c
theorem Cmds.app {l r : List S85} {a b : Nat} (h : Cmds l a) (h' : Cmds r b) : Cmds (l ++ r) (a + b) := by
  refine ⟨by rw [List.length_append]; have := h.len; have := h'.len; omega, fun c hc => ?_⟩
  rcases List.mem_append.1 hc with hc | hc
  · exact h.ok c hc
  · exact h'.ok c hc
theorem Cmds.one {c : S85} (h : CmdOk c) : Cmds [c] 1 := ⟨Nat.le_refl _, fun d hd => by rw [List.mem_singleton.1 hd]; exact h⟩
theorem Cmds.mono {l : List S85} {a b : Nat} (h : Cmds l a) (hb : a ≤ b) : Cmds l b := ⟨Nat.le_trans h.len hb, h.ok⟩
theorem ok0 (a b : Int) : CmdOk ((a, b, 0) : S85) := ⟨Int.le_refl _, by show (0 : Int) ≤ _; omega⟩
def CmQ (t : TT) (z : List S85 × CC × List S71 × List Int × List S77 × List S182) : Prop := Cmds z.1 20 ∧ Cur z.2.1 ∧ z.2.2 = lst t
theorem cmds_l6 (t : TT) (n : Nat) (hn : n ≤ 20) (m : Nat) : ∀ (i : Nat) {y : CC} (c : Cur y) (h : List S85), i + m = n → Cmds h i → Out (CmQ t) (fun k => spec_l19Cmds_o1.l6 k (n : Int) (i : Int) y t h) := by
  induction m with
  | zero =>
    intro i y c h hi hl
    refine Out.step ?_
    simp only [lenZ_eq, spec_l19Cmds_o1.l6]
    exact Out.ite_neg (by omega) (Out.ret ⟨hl.mono (by omega), c, rfl⟩)
  | succ m ih =>
    intro i y c h hi hl
    have hi1 : wrap64 ((i : Int) + 1) = ((i + 1 : Nat) : Int) := by rw [wrap_of (by omega) (by omega)]; omega
    have hlen := hl.len
    have go : ∀ (q : S85) (hq : CmdOk q) {y : CC} (c : Cur y), Out (CmQ t) (fun k => if h.length + ([q] : List S85).length < 5864062014805 then (spec_l19Cmds_o1.l6 k (n : Int) ((i + 1 : Nat) : Int) y t (h ++ ([q] : List S85))) else none) := fun q hq y c =>
      Out.ite_pos (by simp; omega) (ih (i + 1) c _ (by omega) (hl.app (Cmds.one hq)))
    refine Out.step ?_
    simp only [lenZ_eq, spec_l19Cmds_o1.l6, hi1]
    refine Out.ite_pos (by omega) (Out.bind (pick_out c (by simp)) fun a ha => Out.ite (fun _ => ?_) fun _ => Out.ite (fun _ => ?_) fun _ => ?_)
    · exact Out.bind (below_out ha.2 (n := 120) (by omega)) fun b hb => Out.bind (once_out hb.2 4) fun d hd => Out.ite (fun _ => go _ (ok0 _ _) hd) fun _ => go _ (ok0 _ _) hd
    · exact Out.bind (below_any ha.2 _) fun b hb => Out.bind (word_out hb.2.2.2) fun d hd => go _ hd.1 hd.2
    · exact Out.bind (below_any ha.2 _) fun b hb => Out.bind (once_out hb.2.2.2 3) fun d hd => Out.ite (fun _ => go _ (ok0 _ _) hd) fun _ => Out.bind (below_out hd (n := 60) (by omega)) fun e he => go _ (ok0 _ _) he.2
theorem cmds_of (t : TT) (n : Nat) (hn : n ≤ 20) {y : CC} (c : Cur y) :
    Out (CmQ t) (fun k => spec_l19Cmds_o1.f k t.f0 t.f1.f0 t.f1.f1 t.f1.f2 t.f2 t.f3.f0 t.f3.f1 t.f3.f2 t.f3.f3 t.f3.f4 t.f3.f5 t.f3.f6 t.f4 t.f5 t.f6 (n : Int) y t.f7 t.f8 t.f9 t.f10) := by
  unfold spec_l19Cmds_o1.f
  try simp only [lenZ_eq]
  exact cmds_l6 t n hn n 0 c [] (by omega) ⟨Nat.le_refl _, fun c hc => by cases hc⟩
theorem size_some (code : List Int) (h : code.length ≤ 2097152) : ∃ n : Nat, spec_l01Size.f code 20 = some (n : Int) ∧ n ≤ 20 := by
  unfold spec_l01Size.f
  try simp only [lenZ_eq]
  have h1 : Int.tdiv (code.length : Int) 20 = (code.length : Int) / 20 := Int.tdiv_eq_ediv_of_nonneg (by omega)
  rw [h1, wrap_of (a := (code.length : Int) / 20) (by omega) (by omega), wrap_of (by omega) (by omega)]
  split
  · exact ⟨20, rfl, Nat.le_refl _⟩
  · exact ⟨(2 + (code.length : Int) / 20).toNat, by rw [Int.toNat_of_nonneg (by omega)], by omega⟩
structure SyQ (z : TT × List (List (List Int)) × List S85) : Prop where
  tab : ∃ n, 2 ≤ n ∧ n ≤ 4 ∧ Tabs n z.1
  img : 2 ≤ z.2.1.length ∧ ∀ x ∈ z.2.1, x.length = 2
  cmd : Cmds z.2.2 20
theorem system_out (code : List Int) (h : code.length ≤ 2097152) : Out SyQ (fun k => spec_l19System.f k code) := by
  unfold spec_l19System.f
  try simp only [lenZ_eq]
  simp only [sameO_self]
  refine Out.bind (new_out code h) fun y hy => Out.bind (below_out hy (n := 3) (by omega)) fun z hz => ?_
  have hz1 := hz.1
  rw [wrap_of (a := 2 + z.1) (by omega) (by omega)]
  refine Out.bind (tables_out (n := 2 + z.1) (by omega) hz.2) fun u hu => ?_
  obtain ⟨t, uc⟩ := u
  obtain ⟨ht, huc⟩ := hu
  have ht : Tabs (2 + z.1) t := ht
  refine Out.bind (imgs_of t (ht.wins (by omega)) huc) fun v hv => ?_
  obtain ⟨v1, v2, v3, v4, v5, v6⟩ := v
  obtain ⟨h1, h2, h3⟩ := hv
  simp only [lst, Prod.mk.injEq] at h3
  obtain ⟨rfl, rfl, rfl, rfl⟩ := h3
  obtain ⟨n, hn, hn20⟩ := size_some code h
  simp only [hn, Option.bind_some]
  refine Out.bind (cmds_of t n hn20 h2) fun w hw => ?_
  obtain ⟨w1, w2, w3, w4, w5, w6⟩ := w
  obtain ⟨g1, g2, g3⟩ := hw
  simp only [lst, Prod.mk.injEq] at g3
  obtain ⟨rfl, rfl, rfl, rfl⟩ := g3
  have hp := ht.parts
  have h11 : v1.length = t.f7.length := h1.1
  exact Out.ret ⟨⟨2 + z.1, by omega, by omega, ht⟩, ⟨by show 2 ≤ v1.length; omega, h1.2⟩, g1⟩
/-- Tables that fit, and commands. -/
structure AyQ (z : TT × List (List (List Int)) × List S85) : Prop where
  small : Small z.1
  names : ∀ x ∈ z.1.f7, x.f0.size ≤ 9223372036854775807
  cmd : Cmds z.2.2 30
theorem any_l39 (x : List (List (List Int))) (y t : TT) (ht : Small t) (hn : ∀ x ∈ t.f7, x.f0.size ≤ 9223372036854775807) {l : List S85} (hl : Cmds l 30) : Out AyQ (fun k => spec_l19Any.l39 k x y t l) := by
  refine Out.step ?_
  simp only [lenZ_eq, spec_l19Any.l39]
  exact Out.ret ⟨ht, hn, hl⟩
theorem any_l32 (x : List (List (List Int))) (t : TT) (ht : Small t) (hn : ∀ x ∈ t.f7, x.f0.size ≤ 9223372036854775807) (m : Nat) : ∀ (i : Nat) (y : TT) (l : List S85), i + m = 10 → Cmds l (20 + i) → Out AyQ (fun k => spec_l19Any.l32 k (i : Int) y t x l) := by
  induction m with
  | zero =>
    intro i y l hi hl
    refine Out.step ?_
    simp only [lenZ_eq, spec_l19Any.l32]
    exact Out.ite_neg (by omega) (any_l39 _ _ _ ht hn (hl.mono (by omega)))
  | succ m ih =>
    intro i y l hi hl
    have hi1 : wrap64 ((i : Int) + 1) = ((i + 1 : Nat) : Int) := by rw [wrap_of (by omega) (by omega)]; omega
    have hlen := hl.len
    refine Out.step ?_
    simp only [lenZ_eq, spec_l19Any.l32, hi1]
    refine Out.ite_pos (by omega) (Out.ite_pos (by simp; omega) (ih (i + 1) _ _ (by omega) (hl.app (Cmds.one ⟨?_, ?_⟩))))
    · show 0 ≤ IntKind.wrap .u32 (i : Int); rw [wrap_u32]; omega
    · show IntKind.wrap .u32 (i : Int) ≤ 4294967295; rw [wrap_u32]; omega
theorem anySys_out (code : List Int) (h : code.length ≤ 1048576) : Out AyQ (fun k => spec_l19Any.f k code) := by
  unfold spec_l19Any.f
  try simp only [lenZ_eq]
  simp only [sameO_self]
  refine Out.bind (system_out code (by omega)) fun z hz => ?_
  obtain ⟨t, im, l⟩ := z
  obtain ⟨⟨n, hn0, hn1, ht⟩, ⟨hi1, hi2⟩, hl⟩ := hz
  have ht : Tabs n t := ht
  have hs := ht.small (by omega)
  have hnm := ht.names (by omega)
  have hl : Cmds l 20 := hl
  have hi1 : 2 ≤ im.length := hi1
  have hi0 : (im.getD 0 []).length = 2 := hi2 _ (getD_mem (by omega))
  have hll := hl.len
  have h2 : ∀ q r : S85, CmdOk q → CmdOk r → Cmds (l ++ [q, r]) 30 := fun q r hq hr => (hl.app ((Cmds.one hq).app (Cmds.one hr))).mono (by omega)
  refine Out.ite_pos (by simp; omega) (Out.bind (new_out _ (by simp; omega)) fun y hy => Out.bind (below_out hy (n := 18) (by omega)) fun u hu => ?_)
  have hu := hu.2
  refine Out.ite (fun _ => ?_) fun _ => Out.ite (fun _ => ?_) fun _ => Out.ite (fun _ => ?_) fun _ => Out.ite (fun _ => ?_) fun _ => Out.ite (fun _ => ?_) fun _ => Out.ite (fun _ => ?_) fun _ => ?_
  · exact Out.ite_pos (by omega) (Out.ite_pos (by show (1 : Int) ≤ (im.length : Int); omega) (any_l39 _ _ _ hs hnm (hl.mono (by omega))))
  · exact Out.ite_pos (by show (0 : Int) < (im.length : Int); omega) (Out.ite_pos (by omega) (Out.ite_pos (by show (1 : Int) ≤ ((im.getD 0 []).length : Int); omega) (Out.ite_pos (by show (0 : Int) < (im.length : Int); omega) (any_l39 _ _ _ hs hnm (hl.mono (by omega))))))
  · exact any_l39 _ _ ((t.f0, t.f1, t.f2, t.f3, 0, t.f5, t.f6, t.f7, t.f8, t.f9, t.f10) : TT) ⟨hs.parts, hs.windows, hs.devs, hs.chans, hs.slots⟩ hnm (hl.mono (by omega))
  · exact Out.bind (pick_out hu (by simp)) fun a ha => Out.bind (pick_out ha.2 (by simp)) fun b hb => Out.ite_pos (by simp; omega) (any_l39 _ _ _ hs hnm (h2 _ _ (ok0 _ _) (ok0 _ _)))
  · exact Out.bind (pick_out hu (by simp)) fun a ha => Out.bind (pick_out ha.2 (by simp)) fun b hb => Out.ite_pos (by simp; omega) (any_l39 _ _ _ hs hnm (h2 _ _ (ok0 _ _) (ok0 _ _)))
  · exact any_l32 _ t hs hnm 10 0 _ _ (by omega) hl
  · exact any_l39 _ _ _ hs hnm (hl.mono (by omega))
structure PrQ (z : TT × List S85) : Prop where
  small : Small z.1
  names : ∀ x ∈ z.1.f7, x.f0.size ≤ 9223372036854775807
  cmd : Cmds z.2 330
theorem prt_l14 (t : TT) (ht : Small t) (hn : ∀ x ∈ t.f7, x.f0.size ≤ 9223372036854775807) (m : Nat) : ∀ (i : Nat) (y : TT) (l : List S85), i + m = 300 → Cmds l (30 + i) → Out PrQ (fun k => spec_DrawPrintScript.l14 k (i : Int) y t l) := by
  induction m with
  | zero =>
    intro i y l hi hl
    refine Out.step ?_
    simp only [lenZ_eq, spec_DrawPrintScript.l14]
    exact Out.ite_neg (by omega) (Out.ret ⟨ht, hn, hl.mono (by omega)⟩)
  | succ m ih =>
    intro i y l hi hl
    have hi1 : wrap64 ((i : Int) + 1) = ((i + 1 : Nat) : Int) := by rw [wrap_of (by omega) (by omega)]; omega
    have hlen := hl.len
    refine Out.step ?_
    simp only [lenZ_eq, spec_DrawPrintScript.l14, hi1]
    exact Out.ite_pos (by omega) (Out.ite_pos (by simp; omega) (ih (i + 1) _ _ (by omega) (hl.app (Cmds.one (ok0 _ _)))))
theorem drawPrint_out (code : List Int) (h : code.length ≤ 1048576) : Out PrQ (fun k => spec_DrawPrintScript.f k code) := by
  unfold spec_DrawPrintScript.f
  try simp only [lenZ_eq]
  refine Out.bind (anySys_out code h) fun z hz => ?_
  obtain ⟨t, im, l⟩ := z
  obtain ⟨hs, hn, hl⟩ := hz
  have hs : Small t := hs
  have hl : Cmds l 30 := hl
  have fin : ∀ (l : List S85) (hl : Cmds l 30) {y : CC} (c : Cur y) (w : TT), Out PrQ (fun k => (spec_l01Once_o1.f 12 y).bind fun t6 => (if t6.1 = true then (spec_DrawPrintScript.l14 k 0 w t l) else (some (t, l)))) := fun l hl y c w =>
    Out.bind (once_out c 12) fun a ha => Out.ite (fun _ => prt_l14 t hs hn 300 0 _ _ (by omega) hl) fun _ => Out.ret ⟨hs, hn, hl.mono (by omega)⟩
  refine Out.ite_pos (by simp; omega) (Out.bind (new_out _ (by simp; omega)) fun y hy => Out.ite (fun h0 => Out.bind (once_out hy 6) fun a ha => Out.ite (fun _ => ?_) fun _ => fin l hl ha _) fun _ => fin l hl hy _)
  have h0 : (l.length : Int) > 0 := h0
  refine Out.bind (below_out ha (n := (l.length : Int)) (by omega)) fun b hb => Out.ite_pos hb.1.1 (Out.ite_pos hb.1.2 ?_)
  refine fin (l.set b.1.toNat ((rd_T85 l b.1).f0, (rd_T85 l b.1).f1, 3)) ⟨by rw [List.length_set]; exact hl.len, fun c hc => ?_⟩ hb.2 _
  rcases List.mem_or_eq_of_mem_set hc with hc | rfl
  · exact hl.ok c hc
  · exact ⟨by show (0 : Int) ≤ 3; omega, by show (3 : Int) ≤ _; omega⟩
end Go.Proofs.YtcjfheidmlcbfaaGreatDoor.PSr
