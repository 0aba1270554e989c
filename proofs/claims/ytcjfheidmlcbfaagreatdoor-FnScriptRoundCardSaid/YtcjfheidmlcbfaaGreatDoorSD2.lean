/- Plain Lean over the printed functions: drawn tables are sound. -/
import Derived.Test.YtcjfheidmlcbfaaGreatDoorSD1
set_option linter.unusedVariables false
set_option linter.unusedSimpArgs false
set_option linter.unusedSectionVars false
namespace Go.Proofs.YtcjfheidmlcbfaaGreatDoor.PSr
open Go Go.RowKit Go.Proofs.YtcjfheidmlcbfaaGreatDoor.V Go.Proofs.YtcjfheidmlcbfaaGreatDoor.C

abbrev nms : List ByteArray := [(ByteArray.mk #[97, 108, 112, 104, 97]), (ByteArray.mk #[98, 101, 116, 97]), (ByteArray.mk #[103, 97, 109, 109, 97]), (ByteArray.mk #[100, 101, 108, 116, 97]), (ByteArray.mk #[101, 112, 115]), (ByteArray.mk #[122, 101, 116, 97])]
theorem nms_ok : ∀ i ∈ List.range 6, (nameB (nms.getD i ByteArray.empty) && decide ((nms.getD i ByteArray.empty).size ≤ 8)) = true := by decide +kernel
theorem nms_ne : ∀ i ∈ List.range 6, ∀ j ∈ List.range 6, (decide (i = j) || !decide ((nms.getD i ByteArray.empty).data.toList = (nms.getD j ByteArray.empty).data.toList)) = true := by decide +kernel
theorem nms_inj {i j : Nat} (hi : i < 6) (hj : j < 6) (h : nms.getD i ByteArray.empty = nms.getD j ByteArray.empty) : i = j := by
  have := nms_ne i (List.mem_range.2 hi) j (List.mem_range.2 hj)
  rw [h] at this
  simpa using this

/-- Rows of partitions: windows one behind the other, up to a place. -/
structure Rows (l : List S71) (e : Int) : Prop where
  wins : (l.flatMap (·.f3)).Pairwise (fun x y => x.f0 + x.f1 ≤ y.f0)
  win : ∀ w ∈ l.flatMap (·.f3), windowB w = true ∧ w.f0 + w.f1 ≤ e
  part : ∀ p ∈ l, policyB p.f2 = true ∧ p.f3.length = 2 ∧ p.f3.any (hasP p) = true ∧ p.f1.tmod 4 = 0
  name : ∀ i, i < l.length → (l.getD i z71).f0 = nms.getD i ByteArray.empty

theorem rows_nil (e : Int) : Rows [] e := ⟨List.Pairwise.nil, fun w hw => by simp at hw, fun p hp => by simp at hp, fun i hi => by simp at hi⟩
theorem Rows.snoc {l : List S71} {e at_ : Int} (h : Rows l e) (he : 0 ≤ e ∧ e ≤ at_ ∧ at_ % 4 = 0 ∧ at_ ≤ 1500) {p : S71} (hl : l.length < 6) (hn : p.f0 = nms.getD l.length ByteArray.empty) (hpol : policyB p.f2 = true)
    {a b c : Int} (ha : 0 ≤ a ∧ a < 2) (hb : 0 ≤ b ∧ b < 4) (hc : 0 ≤ c ∧ c < 2) (hw : p.f3 = [((at_, 128, 5) : S66), ((at_ + 128 + 4 * a, 32 + 4 * b, 3) : S66)]) (hent : p.f1 = at_ + 4 * c) : Rows (l ++ [p]) (at_ + 128 + 4 * a + (32 + 4 * b)) := by
  have w1 : windowB ((at_, 128, 5) : S66) = true := by
    rw [window_in]
    show 0 ≤ at_ ∧ (4 : Int) ≤ 128 ∧ at_ + 128 ≤ 2048 ∧ at_.tmod 4 = 0 ∧ (128 : Int).tmod 4 = 0 ∧ (1 : Int) ≤ 5 ∧ (5 : Int) ≤ 7
    rw [Int.tmod_eq_emod_of_nonneg (by omega)]
    exact ⟨by omega, by omega, by omega, by omega, by decide, by omega, by omega⟩
  have w2 : windowB ((at_ + 128 + 4 * a, 32 + 4 * b, 3) : S66) = true := by
    rw [window_in]
    show 0 ≤ at_ + 128 + 4 * a ∧ 4 ≤ 32 + 4 * b ∧ at_ + 128 + 4 * a + (32 + 4 * b) ≤ 2048 ∧ (at_ + 128 + 4 * a).tmod 4 = 0 ∧ (32 + 4 * b).tmod 4 = 0 ∧ (1 : Int) ≤ 3 ∧ (3 : Int) ≤ 7
    rw [Int.tmod_eq_emod_of_nonneg (by omega), Int.tmod_eq_emod_of_nonneg (by omega)]
    omega
  refine ⟨?_, ?_, ?_, ?_⟩
  · rw [List.flatMap_append, List.pairwise_append]
    refine ⟨h.wins, ?_, ?_⟩
    · simp only [List.flatMap_cons, List.flatMap_nil, List.append_nil, hw]
      refine List.pairwise_cons.2 ⟨?_, List.pairwise_singleton _ _⟩
      intro y hy
      rw [List.mem_singleton] at hy
      subst hy
      show at_ + 128 ≤ at_ + 128 + 4 * a
      omega
    · intro x hx y hy
      have h1 := (h.win x hx).2
      simp only [List.flatMap_cons, List.flatMap_nil, List.append_nil, hw, List.mem_cons, List.not_mem_nil, or_false] at hy
      rcases hy with rfl | rfl
      · show x.f0 + x.f1 ≤ at_
        omega
      · show x.f0 + x.f1 ≤ at_ + 128 + 4 * a
        omega
  · intro w hwm
    rw [List.flatMap_append] at hwm
    rcases List.mem_append.1 hwm with hm | hm
    · exact ⟨(h.win w hm).1, by have := (h.win w hm).2; omega⟩
    · simp only [List.flatMap_cons, List.flatMap_nil, List.append_nil, hw, List.mem_cons, List.not_mem_nil, or_false] at hm
      rcases hm with rfl | rfl
      · exact ⟨w1, by show at_ + 128 ≤ at_ + 128 + 4 * a + (32 + 4 * b); omega⟩
      · exact ⟨w2, Int.le_refl _⟩
  · intro q hq
    rcases List.mem_append.1 hq with hm | hm
    · exact h.part q hm
    · rw [List.mem_singleton] at hm
      rw [hm]
      refine ⟨hpol, by rw [hw]; rfl, ?_, ?_⟩
      · rw [hw, List.any_cons]
        have : hasP p ((at_, 128, 5) : S66) = true := by
          unfold hasP
          rw [Bool.and_eq_true, has_in w1, hent]
          refine ⟨?_, show decide (wrap64 ((5 : Int).tdiv 4) = 1) = true by decide +kernel⟩
          show at_ ≤ at_ + 4 * c ∧ at_ + 4 * c < at_ + 128
          omega
        rw [this]; rfl
      · rw [hent, Int.tmod_eq_emod_of_nonneg (by omega)]; omega
  · intro i hi
    rw [List.length_append, List.length_singleton] at hi
    rw [List.getD_eq_getElem?_getD]
    by_cases hlt : i < l.length
    · rw [List.getElem?_append_left hlt, ← List.getD_eq_getElem?_getD]
      exact h.name i hlt
    · have : i = l.length := by omega
      subst this
      rw [List.getElem?_append_right (Nat.le_refl _), Nat.sub_self]
      exact hn

theorem Rows.sound {t : S33} {e : Int} (h : Rows t.f7 e) (he : e ≤ t.f0) (hl : 1 ≤ t.f7.length ∧ t.f7.length ≤ 6) : specPartsB t = true := by
  have hlen : ∀ p ∈ t.f7, p.f3.length = 2 := fun p hp => (h.part p hp).2.1
  unfold specPartsB
  rw [Bool.and_eq_true, Bool.and_eq_true, in_iff]
  refine ⟨by omega, ?_, ?_⟩
  · have key : ∀ (n i : Nat), i + n = t.f7.length → partsFrom t.f0 t.f7 n i = true := by
      intro n
      induction n with
      | zero => intro i _; rfl
      | succ n ih =>
        intro i hi
        have hm := getD_mem (z := z71) (l := t.f7) (i := i) (by omega)
        obtain ⟨p1, p2, p3, p4⟩ := h.part _ hm
        have hname := h.name i (by omega)
        have hok := nms_ok i (List.mem_range.2 (by omega))
        rw [Bool.and_eq_true] at hok
        simp only [partsFrom, Bool.and_eq_true]
        refine ⟨?_, ?_, ih (i + 1) (by omega)⟩
        · unfold partOkB partokV
          simp only [Bool.and_eq_true, Bool.false_or, decide_eq_true_eq]
          refine ⟨by rw [hname]; exact hok.1, p1, by rw [in_iff]; omega, ?_, p3, p4⟩
          rw [List.all_eq_true]
          intro w hw
          have hwm : w ∈ t.f7.flatMap (·.f3) := (sub_flat t.f7 _ hm).subset hw
          obtain ⟨q1, q2⟩ := h.win w hwm
          have q3 := window_in.1 q1
          rw [okW, Bool.and_eq_true, Bool.not_eq_true', decide_eq_false_iff_not]
          refine ⟨q1, ?_⟩
          rw [wrap_of (by omega) (by omega)]
          omega
        · unfold namesNe
          rw [List.all_eq_true]
          intro q hq
          obtain ⟨j, hj, rfl⟩ := List.getElem_of_mem hq
          have hj' : j < i := by simp at hj; omega
          have e1 : (t.f7.take i)[j] = t.f7.getD j z71 := by
            rw [List.getElem_take, List.getD_eq_getElem?_getD, List.getElem?_eq_getElem (by omega)]; rfl
          rw [e1, Bool.not_eq_true', decide_eq_false_iff_not, h.name j (by omega), hname]
          intro hh
          have := nms_inj (by omega) (by omega) hh
          omega
    exact key t.f7.length 0 (by omega)
  · refine (pairs_iff _ _ 0 (by omega) (by simp)).2 ?_
    refine List.Pairwise.imp_of_mem (fun {x y} hx hy hxy => ?_) h.wins
    show apartB x y = true
    rw [apart_in (h.win x hx).1 (h.win y hy).1]
    exact .inl hxy

/-- What is drawn ahead of the partitions. -/
structure HeadIn (t : S33) : Prop where
  sets : t.f1.f0 = 1 ∨ t.f1.f0 = 2 ∨ t.f1.f0 = 4
  ways : t.f1.f1 = 1 ∨ t.f1.f1 = 2
  line : t.f1.f2 = 4 ∨ t.f1.f2 = 8 ∨ t.f1.f2 = 16
  tlb : 1 ≤ t.f2 ∧ t.f2 ≤ 4
  a : 1 ≤ t.f3.f0 ∧ t.f3.f0 ≤ 2
  b : 0 ≤ t.f3.f1 ∧ t.f3.f1 ≤ 3
  c : 0 ≤ t.f3.f2 ∧ t.f3.f2 ≤ 2
  d : 0 ≤ t.f3.f3 ∧ t.f3.f3 ≤ 5
  e : 0 ≤ t.f3.f4 ∧ t.f3.f4 ≤ 3
  f : 0 ≤ t.f3.f5 ∧ t.f3.f5 ≤ 2
  g : 0 ≤ t.f3.f6 ∧ t.f3.f6 ≤ 2
theorem HeadIn.costs {t : S33} (h : HeadIn t) : costsB t.f3 = true := by
  obtain ⟨_, _, _, _, a, b, c, d, e, f, g⟩ := h
  unfold costsB
  simp only [Bool.and_eq_true, in_iff]
  omega
theorem HeadIn.shape {t : S33} (h : HeadIn t) : shapeB t.f1 = true := by
  obtain ⟨h1, h2, h3, _⟩ := h
  unfold shapeB
  rw [decide_eq_true_eq]
  omega
theorem maxOp_le {c : S27} {M : Int} (h : ∀ op, opV c op ≤ M) : ∀ (n i : Nat) (x : Int), x ≤ M → maxOp c n i x ≤ M
  | 0, _, x, h1 => h1
  | n + 1, i, x, h1 => by
    have := h (i : Int)
    exact maxOp_le h n (i + 1) _ (by omega)
theorem maxOp_ge {c : S27} : ∀ (n i : Nat) (x : Int), x ≤ maxOp c n i x
  | 0, _, x => Int.le_refl _
  | n + 1, i, x => by
    have := maxOp_ge (c := c) n (i + 1) (max x (opV c (i : Int)))
    simp only [maxOp]
    omega
theorem maxOp_first {c : S27} (hc : CostsIn c) (n : Nat) : 1 ≤ maxOp c (n + 1) 0 0 := by
  have h3 := (opV_in hc ((0 : Nat) : Int)).1
  have h5 := maxOp_ge (c := c) n (0 + 1) (max 0 (opV c ((0 : Nat) : Int)))
  rw [maxOp]
  omega
theorem HeadIn.step {t : S33} (h : HeadIn t) : 1 ≤ stepV t.f3 ∧ stepV t.f3 ≤ 27 := by
  have h1 : 1 ≤ stepV t.f3 := by
    have hc := costs_in h.costs
    have h4 : 1 ≤ maxOp t.f3 33 0 0 := maxOp_first hc 32
    have := hc.d; have := hc.e; have := hc.f; have := hc.g
    unfold stepV
    omega
  obtain ⟨_, _, _, _, a, b, c, d, e, f, g⟩ := h
  have h2 := maxOp_le (c := t.f3) (M := 5) (fun op => by unfold opV; (repeat' split) <;> omega) 33 0 0 (by omega)
  refine ⟨h1, ?_⟩
  unfold stepV
  omega
theorem HeadIn.pads {t : S33} (h : HeadIn t) : 16 ≤ pad0 t.f3 t.f1 ∧ pad0 t.f3 t.f1 ≤ 48 := by
  obtain ⟨h1, h2, _, _, a, _, _, _, _, _, g⟩ := h
  unfold pad0
  rcases h1 with e1 | e1 | e1 <;> rcases h2 with e2 | e2 <;> rw [e1, e2] <;> omega
theorem padL_le {c : S27} (hc : 1 ≤ c.f0 ∧ c.f0 ≤ 2) : ∀ (l : List S77) (x : Int), (∀ r ∈ l, chanB r = true) → x ≤ padL c l x ∧ padL c l x ≤ x + 16 * (l.length : Int)
  | [], x, _ => ⟨Int.le_refl _, by simp [padL]⟩
  | r :: l, x, h => by
    have hm : 1 ≤ mx 1 r.f3 ∧ mx 1 r.f3 ≤ 8 := by
      rcases chan_in (h r (by simp)) with ⟨_, e⟩ | ⟨_, e1, e2⟩
      · rw [e]; exact ⟨by decide, by decide⟩
      · unfold mx; split <;> omega
    have hp : 1 ≤ c.f0 * mx 1 r.f3 ∧ c.f0 * mx 1 r.f3 ≤ 16 := by
      generalize mx 1 r.f3 = m at hm ⊢
      have : c.f0 = 1 ∨ c.f0 = 2 := by omega
      rcases this with e | e <;> rw [e] <;> omega
    obtain ⟨k1, k2⟩ := padL_le hc l (x + c.f0 * mx 1 r.f3) (fun q hq => h q (by simp [hq]))
    simp only [padL, List.length_cons]
    omega

/-- Slots one behind the other, the last up to a place. -/
def SL (n lo : Int) : List S182 → Int → Int → Prop
  | [], fin, e => fin ≤ e
  | s :: l, fin, e => (0 ≤ s.f0 ∧ s.f0 < n) ∧ fin ≤ s.f1 ∧ lo ≤ s.f2 ∧ SL n lo l (s.f1 + s.f2) e
theorem SL.le {n lo : Int} (hlo : 0 ≤ lo) : ∀ {l : List S182} {fin e : Int}, SL n lo l fin e → fin ≤ e
  | [], _, _, h => h
  | s :: l, fin, e, h => by have := SL.le hlo h.2.2.2; have := h.2.1; have := h.2.2.1; omega
theorem SL.snoc {n lo : Int} (hlo : 0 ≤ lo) {s : S182} (h0 : 0 ≤ s.f0 ∧ s.f0 < n) (h2 : lo ≤ s.f2) : ∀ {l : List S182} {fin e : Int}, SL n lo l fin e → e ≤ s.f1 → SL n lo (l ++ [s]) fin (s.f1 + s.f2)
  | [], fin, e, h, he => ⟨h0, Int.le_trans h he, h2, Int.le_refl _⟩
  | x :: l, fin, e, h, he => ⟨h.1, h.2.1, h.2.2.1, SL.snoc hlo h0 h2 h.2.2.2 he⟩
theorem SL.sound {t : S33} {n : Int} (hn : (t.f7.length : Int) = n ∧ 1 ≤ n ∧ n ≤ 6) (h0 : 0 ≤ t.f4 + t.f5 + 1) : ∀ {l : List S182} {fin e : Int}, SL n (t.f4 + t.f5 + 1) l fin e → e ≤ t.f6 → slotsL t l fin = true
  | [], _, _, _, _ => rfl
  | s :: l, fin, e, h, he => by
    have hle := SL.le h0 h.2.2.2
    simp only [slotsL, Bool.and_eq_true, in_iff]
    rw [hn.1, wrap_of (a := n - 1) (by omega) (by omega)]
    refine ⟨⟨h.1.1, by have := h.1.2; omega⟩, ?_, SL.sound hn h0 h.2.2.2 he⟩
    unfold slotAtB
    rw [decide_eq_true_eq]
    exact ⟨h.2.1, h.2.2.1, by omega⟩

/-- Drawn tables. -/
structure Tabs (n : Int) (t : S33) : Prop where
  sound : soundB t = true
  parts : (t.f7.length : Int) = n
  rows : ∃ e, Rows t.f7 e
  slots : 1 ≤ t.f10.length ∧ t.f10.length ≤ 16
  devs : t.f8.length ≤ 8
  chans : t.f9.length ≤ 8

theorem last_getD {α : Type} (z : α) {l : List α} {x : α} (h : l.getLast? = some x) : l.getD (l.length - 1) z = x := by
  rw [List.getLast?_eq_getElem?] at h
  rw [List.getD_eq_getElem?_getD, h]; rfl

/-! ### The drawing of tables, from its end -/
section
variable {n : Int} (hn : 2 ≤ n ∧ n ≤ 6)

def Fin (n : Int) (z : S33 × S162) : Prop := Tabs n z.1 ∧ Cur z.2

/-- Ahead of the slots. -/
structure Body (n : Int) (t : S33) : Prop where
  head : HeadIn t
  mem : ∃ e, Rows t.f7 e ∧ 0 ≤ e ∧ e + 64 ≤ t.f0 ∧ t.f0 ≤ 1600 ∧ t.f0 % 4 = 0
  parts : (t.f7.length : Int) = n
  devs : t.f8.length ≤ 4 ∧ ∀ d ∈ t.f8, 0 ≤ d ∧ d < n
  chans : t.f9.length ≤ 5 ∧ ∀ r ∈ t.f9, RowIn n r
structure Full (n : Int) (t : S33) : Prop extends Body n t where
  pad : padV t.f3 t.f1 t.f9 ≤ t.f4 ∧ 16 ≤ t.f4 ∧ t.f4 ≤ 150
  guard : stepV t.f3 ≤ t.f5 ∧ 1 ≤ t.f5 ∧ t.f5 ≤ 40
include hn

theorem fin_out {y : S162} (c : Cur y) {t : S33} (ht : Full n t) {e : Int} (hs : SL n (t.f4 + t.f5 + 1) t.f10 0 e) (he : e ≤ t.f6) (hm : 1 ≤ t.f6 ∧ t.f6 ≤ 5000) (hlen : 1 ≤ t.f10.length ∧ t.f10.length ≤ 16) (t0 : S33) : Out (Fin n) (fun k => spec_l13Tables_o1.l73 k y t0 t) := by
  refine Out.step ?_
  simp only [lenZ_eq, spec_l13Tables_o1.l73]
  refine Out.ret (?_ : Tabs n t ∧ Cur y)
  refine ⟨?_, c⟩
  obtain ⟨⟨hh, ⟨em, hr, he0, hmem, hmem2, hmem4⟩, hp, ⟨hd1, hd2⟩, hc1, hc2⟩, ⟨hpad, hpad1, hpad2⟩, hg, hg1, hg2⟩ := ht
  refine ⟨?_, hp, ⟨em, hr⟩, hlen, by omega, by omega⟩
  unfold soundB
  simp only [Bool.and_eq_true]
  refine ⟨?_, hr.sound (by omega) (by omega), ⟨?_, ?_⟩, ?_⟩
  · have h4 := hh.tlb
    unfold headB
    simp only [Bool.and_eq_true, in_iff, spanB, decide_eq_true_eq]
    refine ⟨by omega, by rw [Int.tmod_eq_emod_of_nonneg (by omega)]; exact hmem4, hh.shape, by omega, hh.costs, by omega, by omega, hm, hg⟩
  · unfold devsB
    rw [any_not_all, Bool.and_eq_true, Bool.not_eq_true', decide_eq_false_iff_not, List.all_eq_true]
    refine ⟨by omega, fun d hd => ?_⟩
    have := hd2 d hd
    rw [in_iff, hp, wrap_of (by omega) (by omega)]
    omega
  · unfold chansB
    rw [any_not_all', Bool.and_eq_true, Bool.and_eq_true, Bool.not_eq_true', decide_eq_false_iff_not, List.all_eq_true, decide_eq_true_eq]
    refine ⟨by omega, fun r hr' => ?_, hpad⟩
    have := hc2 r hr'
    unfold chanOut
    rw [this.ok, hp]
    have h1 := this.fr
    have h2 := this.to
    simp only [Bool.not_true, Bool.false_or, Bool.not_eq_true', Bool.or_eq_false_iff, decide_eq_false_iff_not]
    omega
  · unfold slotsB
    rw [Bool.and_eq_true, in_iff]
    exact ⟨SL.sound (n := n) ⟨hp, by omega, by omega⟩ (by omega) hs he, by omega⟩

/-- One slot more. -/
theorem slot_out {i start : Int} {t : S33} (ht : Full n t) (t0 : S33) {e : Int} (h0 : 0 ≤ i) (hi : i ≤ n + 1) (hl : (t.f10.length : Int) = i)
    (hs : SL n (t.f4 + t.f5 + 1) t.f10 0 e) (he : e ≤ start) (hst : 0 ≤ start) (hb : start ≤ 5 + 284 * i)
    (next : ∀ (s : S182) (start' : Int) (y : S162) (t0 : S33), Cur y → 0 ≤ s.f0 ∧ s.f0 < n → s.f1 = start → t.f4 + t.f5 + 1 ≤ s.f2 → s.f1 + s.f2 ≤ start' → start' ≤ 5 + 284 * (i + 1) → 0 ≤ start' →
      Out (Fin n) (fun k => spec_l13Tables_o1.l57 k n start' i y t0 ((t.f0, t.f1, t.f2, t.f3, t.f4, t.f5, t.f6, t.f7, t.f8, t.f9, t.f10 ++ [s]) : S33)))
    {s : S182} (h1 : 0 ≤ s.f0 ∧ s.f0 < n) (h2 : s.f1 = start) (h3 : t.f4 + t.f5 + 1 ≤ s.f2 ∧ s.f2 ≤ t.f4 + t.f5 + 90) {y : S162} (c : Cur y) : Out (Fin n) (fun k => spec_l13Tables_o1.l61 k n i y t0 t s) := by
  have hp := ht.pad
  have hg := ht.guard
  refine Out.step ?_
  simp only [lenZ_eq, spec_l13Tables_o1.l61, sameO_self]
  have fin : ∀ (s' : S182) (y' : S162) (v : Int), Cur y' → 0 ≤ s'.f0 ∧ s'.f0 < n → s'.f1 = s.f1 → s'.f2 = s.f2 → v ∈ ([0, 0, 3] : List Int) →
      Out (Fin n) (fun k => spec_l13Tables_o1.l57 k n (wrap64 (wrap64 (s.f1 + s.f2) + v)) i y' ((t0.f0, t0.f1, t0.f2, t0.f3, t0.f4, t0.f5, t0.f6, [], [], [], []) : S33) ((t.f0, t.f1, t.f2, t.f3, t.f4, t.f5, t.f6, t.f7, t.f8, t.f9, t.f10 ++ [s']) : S33)) := by
    intro s' y' v c' g0 g1 g2 hv
    simp only [List.mem_cons, List.not_mem_nil, or_false] at hv
    rw [wrap_of (a := s.f1 + s.f2) (by omega) (by omega), wrap_of (by omega) (by omega)]
    exact next s' _ y' _ c' g0 (by omega) (by omega) (by omega) (by omega) (by omega)
  refine Out.bind (once_out c 5) fun z hz => Out.ite (fun _ => ?_) fun _ => ?_
  · refine Out.bind (below_out hz (n := n) (by omega)) fun z2 hz2 => Out.ite_pos ?_ (Out.bind (pick_out hz2.2 (by simp)) fun z3 hz3 => fin _ _ _ hz3.2 hz2.1 rfl rfl hz3.1)
    simp; omega
  · refine Out.ite_pos ?_ (Out.bind (pick_out hz (by simp)) fun z3 hz3 => fin _ _ _ hz3.2 h1 rfl rfl hz3.1)
    simp; omega

theorem slots_out (m : Nat) : ∀ (i start : Int) {y : S162} (c : Cur y) {t : S33} (ht : Full n t) (t0 : S33) {e : Int}, i + m = n + 2 → 0 ≤ i → (t.f10.length : Int) = i →
    SL n (t.f4 + t.f5 + 1) t.f10 0 e → (∀ x, t.f10.getLast? = some x → x.f1 + x.f2 = e) → e ≤ start → 0 ≤ start → start ≤ 5 + 284 * i → Out (Fin n) (fun k => spec_l13Tables_o1.l54 k n start i y t0 t) := by
  induction m using Nat.strongRecOn with
  | ind m ih =>
    intro i start y c t ht t0 e hm h0 hl hs hlast he hst hb
    have hp := ht.pad
    have hg := ht.guard
    refine Out.step ?_
    simp only [lenZ_eq, spec_l13Tables_o1.l54, sameO_self]
    refine Out.bind (below_out c (n := 3) (by omega)) fun z hz => ?_
    have hz1 := hz.1
    rw [wrap_of (a := n + z.1) (by omega) (by omega)]
    refine Out.ite (fun hlt => ?_) fun hge => ?_
    · refine Out.ite_neg (by omega) (Out.bind (below_out hz.2 (n := 90) (by omega)) fun z2 hz2 => ?_)
      have hz3 := hz2.1
      rw [wrap_of (a := t.f4 + t.f5) (by omega) (by omega), wrap_of (a := t.f4 + t.f5 + 1) (by omega) (by omega), wrap_of (a := t.f4 + t.f5 + 1 + z2.1) (by omega) (by omega)]
      refine slot_out hn ht _ h0 (by omega) hl hs he hst hb ?_ (s := ((i.tmod n, start, t.f4 + t.f5 + 1 + z2.1) : S182)) ⟨Int.tmod_nonneg _ h0, Int.tmod_lt_of_pos _ (by omega)⟩ rfl (show t.f4 + t.f5 + 1 ≤ t.f4 + t.f5 + 1 + z2.1 ∧ t.f4 + t.f5 + 1 + z2.1 ≤ t.f4 + t.f5 + 90 by omega) hz2.2
      intro s start' y' t0' c' g0 g1 g2 g3 g4 g5
      refine Out.step ?_
      simp only [lenZ_eq, spec_l13Tables_o1.l57]
      rw [wrap_of (a := i + 1) (by omega) (by omega)]
      have hs' := SL.snoc (n := n) (lo := t.f4 + t.f5 + 1) (by omega) (s := s) g0 g2 hs (by omega)
      have ht' : Full n ((t.f0, t.f1, t.f2, t.f3, t.f4, t.f5, t.f6, t.f7, t.f8, t.f9, t.f10 ++ [s]) : S33) := ⟨⟨⟨ht.head.sets, ht.head.ways, ht.head.line, ht.head.tlb, ht.head.a, ht.head.b, ht.head.c, ht.head.d, ht.head.e, ht.head.f, ht.head.g⟩, ht.mem, ht.parts, ht.devs, ht.chans⟩, ht.pad, ht.guard⟩
      refine ih (m - 1) (by omega) (i + 1) start' c' ht' _ (e := s.f1 + s.f2) (by omega) (by omega) ?_ hs' ?_ g3 g5 g4
      · show ((t.f10 ++ [s]).length : Int) = i + 1
        simp; omega
      · intro x hx
        have hx : (t.f10 ++ [s]).getLast? = some x := hx
        rw [List.getLast?_append] at hx
        simp at hx
        rw [← hx]
    · have hpos : 1 ≤ t.f10.length := by omega
      rw [wrap_of (a := (t.f10.length : Int) - 1) (by omega) (by omega)]
      refine Out.ite_pos (by omega) (Out.ite_pos (by omega) (Out.bind (pick_out hz.2 (by simp)) fun z2 hz2 => ?_))
      have hv := hz2.1
      simp only [List.mem_cons, List.not_mem_nil, or_false] at hv
      obtain ⟨x, hx⟩ : ∃ x, t.f10.getLast? = some x := by
        rw [List.getLast?_eq_getElem?]
        exact ⟨_, List.getElem?_eq_getElem (by omega)⟩
      have hxe := hlast x hx
      have hrd : rd_T182 t.f10 ((t.f10.length : Int) - 1) = x := by
        show t.f10.getD ((t.f10.length : Int) - 1).toNat _ = x
        rw [show ((t.f10.length : Int) - 1).toNat = t.f10.length - 1 by omega]
        exact last_getD _ hx
      have hse := SL.le (by omega) hs
      rw [hrd, hxe, wrap_of (a := e) (by omega) (by omega), wrap_of (a := e + z2.1) (by omega) (by omega)]
      have ht' : Full n ((t.f0, t.f1, t.f2, t.f3, t.f4, t.f5, e + z2.1, t.f7, t.f8, t.f9, t.f10) : S33) := ⟨⟨⟨ht.head.sets, ht.head.ways, ht.head.line, ht.head.tlb, ht.head.a, ht.head.b, ht.head.c, ht.head.d, ht.head.e, ht.head.f, ht.head.g⟩, ht.mem, ht.parts, ht.devs, ht.chans⟩, ht.pad, ht.guard⟩
      have h1e : 1 ≤ e := by
        cases hq : t.f10 with
        | nil => rw [hq] at hpos; simp at hpos
        | cons s l =>
          rw [hq] at hs
          have h1 := hs.2.1
          have h2 := hs.2.2.1
          have h3 := SL.le (by omega) hs.2.2.2
          omega
      exact fin_out hn hz2.2 ht' (e := e) hs (show e ≤ e + z2.1 by omega) (show 1 ≤ e + z2.1 ∧ e + z2.1 ≤ 5000 by omega) (show 1 ≤ t.f10.length ∧ t.f10.length ≤ 16 by omega) _

theorem chans_out (m : Nat) : ∀ (i : Int) {y : S162} (c : Cur y) {t : S33} (ht : Body n t) (t0 : S33), i + m = 5 → 0 ≤ i → (t.f9.length : Int) = i → Out (Fin n) (fun k => spec_l13Tables_o1.l40 k n i y t0 t) := by
  induction m using Nat.strongRecOn with
  | ind m ih =>
    intro i y c t ht t0 hm h0 hl
    refine Out.step ?_
    simp only [lenZ_eq, spec_l13Tables_o1.l40, sameO_self]
    refine Out.bind (below_out c (n := 5) (by omega)) fun z hz => ?_
    have hz1 := hz.1
    refine Out.ite (fun hlt => ?_) fun hge => ?_
    · refine Out.bind (row_out hz.2 hn) fun z2 hz2 => Out.ite_pos (by simp; omega) (Out.step ?_)
      simp only [lenZ_eq, spec_l13Tables_o1.l43]
      rw [wrap_of (a := i + 1) (by omega) (by omega)]
      have ht' : Body n ((t.f0, t.f1, t.f2, t.f3, t.f4, t.f5, t.f6, t.f7, t.f8, t.f9 ++ [z2.1], []) : S33) := by
        refine ⟨⟨ht.head.sets, ht.head.ways, ht.head.line, ht.head.tlb, ht.head.a, ht.head.b, ht.head.c, ht.head.d, ht.head.e, ht.head.f, ht.head.g⟩, ht.mem, ht.parts, ht.devs, ?_, ?_⟩
        · show (t.f9 ++ [z2.1]).length ≤ 5
          simp; omega
        · intro r hr
          have hr : r ∈ t.f9 ++ [z2.1] := hr
          rcases List.mem_append.1 hr with h | h
          · exact ht.chans.2 r h
          · rw [List.mem_singleton] at h
            rw [h]; exact hz2.1
      refine ih (m - 1) (by omega) (i + 1) hz2.2 ht' _ (by omega) (by omega) ?_
      show ((t.f9 ++ [z2.1]).length : Int) = i + 1
      simp; omega
    · have hok : ∀ r ∈ t.f9, chanB r = true := fun r hr => (ht.chans.2 r hr).ok
      have hcl := ht.chans.1
      refine Out.bind (Out.ev (specStep ht.head.costs) rfl) fun v (hv : stepV t.f3 = v) => ?_
      refine Out.bind (pick_out hz.2 (by simp)) fun z2 hz2 => ?_
      refine Out.bind (Out.ev (specPad ht.head.costs ht.head.shape t.f9 (by omega) hok) rfl) fun u (hu : padV t.f3 t.f1 t.f9 = u) => ?_
      refine Out.bind (pick_out hz2.2 (by simp)) fun z3 hz3 => Out.bind (pick_out hz3.2 (by simp)) fun z4 hz4 => ?_
      have h2 := hz2.1
      have h3 := hz3.1
      have h4 := hz4.1
      simp only [List.mem_cons, List.not_mem_nil, or_false] at h2 h3 h4
      have hst := ht.head.step
      have hpd := ht.head.pads
      have hpl := padL_le ht.head.a t.f9 (pad0 t.f3 t.f1) hok
      have hpv : padV t.f3 t.f1 t.f9 = padL t.f3 t.f9 (pad0 t.f3 t.f1) := rfl
      rw [wrap_of (a := v + z2.1) (by omega) (by omega), wrap_of (a := u + z3.1) (by omega) (by omega)]
      have ht' : Full n ((t.f0, t.f1, t.f2, t.f3, u + z3.1, v + z2.1, t.f6, t.f7, t.f8, t.f9, []) : S33) := by
        refine ⟨⟨⟨ht.head.sets, ht.head.ways, ht.head.line, ht.head.tlb, ht.head.a, ht.head.b, ht.head.c, ht.head.d, ht.head.e, ht.head.f, ht.head.g⟩, ht.mem, ht.parts, ht.devs, ht.chans⟩, ?_, ?_⟩
        · show padV t.f3 t.f1 t.f9 ≤ u + z3.1 ∧ 16 ≤ u + z3.1 ∧ u + z3.1 ≤ 150
          omega
        · show stepV t.f3 ≤ v + z2.1 ∧ 1 ≤ v + z2.1 ∧ v + z2.1 ≤ 40
          omega
      obtain ⟨w, hw⟩ : ∃ w : Nat, (0 : Int) + w = n + 2 := ⟨(n + 2).toNat, by omega⟩
      exact slots_out hn w 0 z4.1 hz4.2 ht' _ (e := 0) hw (by omega) rfl (Int.le_refl _) (fun x hx => by cases hx) (by omega) (by omega) (by omega)

theorem devs_out (m : Nat) : ∀ (i : Int) {y : S162} (c : Cur y) {t : S33} (ht : Body n t) (t0 : S33), t.f9 = [] → i + m = 4 → 0 ≤ i → (t.f8.length : Int) = i → Out (Fin n) (fun k => spec_l13Tables_o1.l32 k n i y t0 t) := by
  induction m using Nat.strongRecOn with
  | ind m ih =>
    intro i y c t ht t0 h9 hm h0 hl
    refine Out.step ?_
    simp only [lenZ_eq, spec_l13Tables_o1.l32, sameO_self]
    refine Out.bind (below_out c (n := 4) (by omega)) fun z hz => ?_
    have hz1 := hz.1
    refine Out.ite (fun hlt => ?_) fun hge => ?_
    · refine Out.bind (below_out hz.2 (n := n) (by omega)) fun z2 hz2 => Out.ite_pos (by simp; omega) (Out.step ?_)
      simp only [lenZ_eq, spec_l13Tables_o1.l35]
      rw [wrap_of (a := i + 1) (by omega) (by omega)]
      have ht' : Body n ((t.f0, t.f1, t.f2, t.f3, t.f4, t.f5, t.f6, t.f7, t.f8 ++ [z2.1], [], []) : S33) := by
        refine ⟨⟨ht.head.sets, ht.head.ways, ht.head.line, ht.head.tlb, ht.head.a, ht.head.b, ht.head.c, ht.head.d, ht.head.e, ht.head.f, ht.head.g⟩, ht.mem, ht.parts, ⟨?_, ?_⟩, ⟨by show (0 : Nat) ≤ 5; omega, fun r hr => by cases hr⟩⟩
        · show (t.f8 ++ [z2.1]).length ≤ 4
          simp; omega
        · intro r hr
          have hr : r ∈ t.f8 ++ [z2.1] := hr
          rcases List.mem_append.1 hr with h | h
          · exact ht.devs.2 r h
          · rw [List.mem_singleton] at h
            rw [h]; exact hz2.1
      refine ih (m - 1) (by omega) (i + 1) hz2.2 ht' _ rfl (by omega) (by omega) ?_
      show ((t.f8 ++ [z2.1]).length : Int) = i + 1
      simp; omega
    · have ht' : Body n ((t.f0, t.f1, t.f2, t.f3, t.f4, t.f5, t.f6, t.f7, t.f8, [], []) : S33) := ⟨⟨ht.head.sets, ht.head.ways, ht.head.line, ht.head.tlb, ht.head.a, ht.head.b, ht.head.c, ht.head.d, ht.head.e, ht.head.f, ht.head.g⟩, ht.mem, ht.parts, ht.devs, ⟨by show (0 : Nat) ≤ 5; omega, fun r hr => by cases hr⟩⟩
      exact chans_out hn 5 0 hz.2 ht' _ (by omega) (by omega) rfl

/-- Ahead of the partitions' end. -/
theorem parts_out (m : Nat) : ∀ (i at_ : Int) {y : S162} (c : Cur y) {t : S33} (hh : HeadIn t) (t0 : S33) {e : Int}, Rows t.f7 e → 0 ≤ e → e ≤ at_ → at_ % 4 = 0 → at_ ≤ 12 + 184 * i → i + m = n → 0 ≤ i → (t.f7.length : Int) = i → t.f8 = [] → t.f9 = [] → Out (Fin n) (fun k => spec_l13Tables_o1.l10 k n at_ i y t0 t) := by
  induction m with
  | zero =>
    intro i at_ y c t hh t0 e hr he0 he h4 hb hm h0 hl h8 h9
    refine Out.step ?_
    simp only [lenZ_eq, spec_l13Tables_o1.l10]
    refine Out.ite_neg (by omega) ?_
    rw [wrap_of (a := at_ + 64) (by omega) (by omega)]
    have ht' : Body n ((at_ + 64, t.f1, t.f2, t.f3, t.f4, t.f5, t.f6, t.f7, [], [], []) : S33) := ⟨⟨hh.sets, hh.ways, hh.line, hh.tlb, hh.a, hh.b, hh.c, hh.d, hh.e, hh.f, hh.g⟩, ⟨e, hr, he0, show e + 64 ≤ at_ + 64 by omega, show at_ + 64 ≤ 1600 by omega, show (at_ + 64) % 4 = 0 by omega⟩, show (t.f7.length : Int) = n by omega, ⟨by show (0 : Nat) ≤ 4; omega, fun r hr => by cases hr⟩, ⟨by show (0 : Nat) ≤ 5; omega, fun r hr => by cases hr⟩⟩
    exact devs_out hn 4 0 c ht' _ rfl (by omega) (by omega) rfl
  | succ m ih =>
    intro i at_ y c t hh t0 e hr he0 he h4 hb hm h0 hl h8 h9
    refine Out.step ?_
    have hlt : i < n := by omega
    have h6 : i < ((nms.length : Nat) : Int) := by show i < 6; omega
    simp only [lenZ_eq, spec_l13Tables_o1.l10, hlt, h0, h6, if_true, sameO_self]
    refine Out.bind (policy_out c) fun z hz => Out.step ?_
    simp only [lenZ_eq, spec_l13Tables_o1.l17, sameO_self]
    refine Out.bind (below_out hz.2 (n := 2) (by omega)) fun z2 hz2 => Out.bind (below_out hz2.2 (n := 4) (by omega)) fun z3 hz3 => Out.bind (below_out hz3.2 (n := 2) (by omega)) fun z4 hz4 => Out.bind (below_out hz4.2 (n := 3) (by omega)) fun z5 hz5 => Out.step ?_
    have k2 := hz2.1
    have k3 := hz3.1
    have k4 := hz4.1
    have k5 := hz5.1
    simp only [lenZ_eq, spec_l13Tables_o1.l27]
    refine Out.ite_pos (by show t.f7.length + 1 < 2199023255552; omega) ?_
    rw [wrap_of (a := at_ + 128) (by omega) (by omega), wrap_of (a := 4 * z2.1) (by omega) (by omega), wrap_of (a := 4 * z3.1) (by omega) (by omega), wrap_of (a := 4 * z4.1) (by omega) (by omega), wrap_of (a := 4 * z5.1) (by omega) (by omega), wrap_of (a := at_ + 128 + 4 * z2.1) (by omega) (by omega), wrap_of (a := 32 + 4 * z3.1) (by omega) (by omega), wrap_of (a := at_ + 4 * z4.1) (by omega) (by omega), wrap_of (a := at_ + 128 + 4 * z2.1 + (32 + 4 * z3.1)) (by omega) (by omega), wrap_of (a := at_ + 128 + 4 * z2.1 + (32 + 4 * z3.1) + 4 * z5.1) (by omega) (by omega), wrap_of (a := i + 1) (by omega) (by omega)]
    have hrow := hr.snoc (at_ := at_) (a := z2.1) (b := z3.1) (c := z4.1) ⟨he0, he, h4, by omega⟩ (p := ((rd_str nms i, at_ + 4 * z4.1, z.1, [((at_, 128, 5) : S66), ((at_ + 128 + 4 * z2.1, 32 + 4 * z3.1, 3) : S66)]) : S71)) (by omega) (by show nms.getD i.toNat _ = nms.getD t.f7.length _; rw [show i.toNat = t.f7.length by omega]) hz.1 k2 k3 k4 rfl rfl
    exact ih (i + 1) _ hz5.2 (t := ((t.f0, t.f1, t.f2, t.f3, t.f4, t.f5, t.f6, t.f7 ++ [((rd_str nms i, at_ + 4 * z4.1, z.1, [((at_, 128, 5) : S66), ((at_ + 128 + 4 * z2.1, 32 + 4 * z3.1, 3) : S66)]) : S71)], [], [], []) : S33)) ⟨hh.sets, hh.ways, hh.line, hh.tlb, hh.a, hh.b, hh.c, hh.d, hh.e, hh.f, hh.g⟩ _ hrow (by omega) (by omega) (by omega) (by omega) (by omega) (by omega) (by show ((t.f7 ++ [_]).length : Int) = i + 1; simp; omega) rfl rfl

theorem tables_out {y : S162} (c : Cur y) : Out (Fin n) (fun k => spec_l13Tables_o1.f k n y) := by
  unfold spec_l13Tables_o1.f
  try simp only [lenZ_eq]
  refine Out.bind (pick_out c (by simp)) fun z1 h1 => Out.bind (below_out h1.2 (n := 2) (by omega)) fun z2 h2 => Out.bind (pick_out h2.2 (by simp)) fun z3 h3 => Out.bind (below_out h3.2 (n := 4) (by omega)) fun z4 h4 => Out.bind (below_out h4.2 (n := 2) (by omega)) fun z5 h5 => Out.bind (below_out h5.2 (n := 4) (by omega)) fun z6 h6 => Out.bind (below_out h6.2 (n := 3) (by omega)) fun z7 h7 => Out.bind (below_out h7.2 (n := 6) (by omega)) fun z8 h8 => Out.bind (below_out h8.2 (n := 4) (by omega)) fun z9 h9 => Out.bind (below_out h9.2 (n := 3) (by omega)) fun z10 h10 => Out.bind (below_out h10.2 (n := 3) (by omega)) fun z11 h11 => Out.bind (below_out h11.2 (n := 4) (by omega)) fun z12 h12 => ?_
  have k1 := h1.1
  have k2 := h2.1
  have k3 := h3.1
  have k4 := h4.1
  have k5 := h5.1
  have k6 := h6.1
  have k7 := h7.1
  have k8 := h8.1
  have k9 := h9.1
  have k10 := h10.1
  have k11 := h11.1
  have k12 := h12.1
  simp only [List.mem_cons, List.not_mem_nil, or_false] at k1 k3
  rw [wrap_of (a := 1 + z2.1) (by omega) (by omega), wrap_of (a := 1 + z4.1) (by omega) (by omega), wrap_of (a := 1 + z5.1) (by omega) (by omega), wrap_of (a := 4 * z12.1) (by omega) (by omega)]
  obtain ⟨w, hw⟩ : ∃ w : Nat, (0 : Int) + w = n := ⟨n.toNat, by omega⟩
  refine parts_out hn w 0 _ h12.2 ⟨k1, ?_, k3, ?_, ?_, ?_, ?_, ?_, ?_, ?_, ?_⟩ _ (e := 0) (rows_nil 0) (by omega) (by omega) (by omega) (by omega) hw (by omega) rfl rfl rfl
  · show 1 + z2.1 = 1 ∨ 1 + z2.1 = 2
    omega
  · show 1 ≤ 1 + z4.1 ∧ 1 + z4.1 ≤ 4
    omega
  · show 1 ≤ 1 + z5.1 ∧ 1 + z5.1 ≤ 2
    omega
  · show 0 ≤ z6.1 ∧ z6.1 ≤ 3
    omega
  · show 0 ≤ z7.1 ∧ z7.1 ≤ 2
    omega
  · show 0 ≤ z8.1 ∧ z8.1 ≤ 5
    omega
  · show 0 ≤ z9.1 ∧ z9.1 ≤ 3
    omega
  · show 0 ≤ z10.1 ∧ z10.1 ≤ 2
    omega
  · show 0 ≤ z11.1 ∧ z11.1 ≤ 2
    omega
end
end Go.Proofs.YtcjfheidmlcbfaaGreatDoor.PSr
