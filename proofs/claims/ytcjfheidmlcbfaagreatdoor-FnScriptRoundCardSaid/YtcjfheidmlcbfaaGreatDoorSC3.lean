/- Plain Lean over the printed functions: the heads of tables (memory, shape, costs, the worst step), labels and names. -/
import Derived.Test.YtcjfheidmlcbfaaGreatDoorSC2
set_option linter.unusedVariables false
set_option linter.unusedSimpArgs false
namespace Go.Proofs.YtcjfheidmlcbfaaGreatDoor.PSr
open Go Go.RowKit Go.Proofs.YtcjfheidmlcbfaaGreatDoor.V Go.Proofs.YtcjfheidmlcbfaaGreatDoor.C

def inB (a b c : Int) : Bool := decide (b ≤ a ∧ a ≤ c)
theorem in_iff {a b c : Int} : inB a b c = true ↔ b ≤ a ∧ a ≤ c := by simp [inB]
theorem l01In_some (a b c : Int) : spec_l01In.f a b c = some (inB a b c) := by
  unfold spec_l01In.f inB
  split <;> simp [*] <;> omega
theorem within_some (a b c : Int) : impl_within.f a b c = some (inB a b c) := l01In_some a b c

/-! ### Memory, shape -/
def memB (a : Int) : Bool := inB a 64 2048 && decide (a.tmod 4 = 0)
theorem mem_some (a : Int) : impl_isMem.f a = some (memB a) := by
  unfold impl_isMem.f memB
  rw [within_some]
  cases inB a 64 2048 <;> rfl
theorem power_eq (a : Int) (h1 : 1 ≤ a) (h2 : a ≤ 32) : impl_isPower.f a = some (decide (a = 1 ∨ a = 2 ∨ a = 4 ∨ a = 8 ∨ a = 16 ∨ a = 32)) := by
  obtain rfl | rfl | rfl | rfl | rfl | rfl | rfl | rfl | rfl | rfl | rfl | rfl | rfl | rfl | rfl | rfl | rfl | rfl | rfl | rfl | rfl | rfl | rfl | rfl | rfl | rfl | rfl | rfl | rfl | rfl | rfl | rfl : a = 1 ∨ a = 2 ∨ a = 3 ∨ a = 4 ∨ a = 5 ∨ a = 6 ∨ a = 7 ∨ a = 8 ∨ a = 9 ∨ a = 10 ∨ a = 11 ∨ a = 12 ∨ a = 13 ∨ a = 14 ∨ a = 15 ∨ a = 16 ∨ a = 17 ∨ a = 18 ∨ a = 19 ∨ a = 20 ∨ a = 21 ∨ a = 22 ∨ a = 23 ∨ a = 24 ∨ a = 25 ∨ a = 26 ∨ a = 27 ∨ a = 28 ∨ a = 29 ∨ a = 30 ∨ a = 31 ∨ a = 32 := by omega
  all_goals kernel_rfl
def shapeB (s : S25) : Bool := decide ((s.f0 = 1 ∨ s.f0 = 2 ∨ s.f0 = 4 ∨ s.f0 = 8 ∨ s.f0 = 16) ∧ (s.f2 = 4 ∨ s.f2 = 8 ∨ s.f2 = 16 ∨ s.f2 = 32) ∧ 1 ≤ s.f1 ∧ s.f1 ≤ 4)
theorem shape_some (s : S25) : impl_isShape.f s = some (shapeB s) := by
  unfold impl_isShape.f shapeB
  generalize s.f0 = a
  generalize s.f1 = b
  generalize s.f2 = c
  simp only [within_some, Option.bind_some]
  by_cases c1 : inB a 1 16 = true
  · have c1' := in_iff.1 c1
    rw [if_pos c1, power_eq a (by omega) (by omega), Option.bind_some]
    by_cases c2 : (a = 1 ∨ a = 2 ∨ a = 4 ∨ a = 8 ∨ a = 16 ∨ a = 32)
    · rw [if_pos (by simpa using c2)]
      by_cases c3 : inB b 1 4 = true
      · have c3' := in_iff.1 c3
        rw [if_pos c3]
        by_cases c4 : inB c 4 32 = true
        · have c4' := in_iff.1 c4
          rw [if_pos c4, power_eq c (by omega) (by omega), Option.bind_some]
          refine congrArg some (decide_eq_decide.2 ?_)
          omega
        · rw [if_neg c4]
          rw [in_iff] at c4
          refine congrArg some (Eq.symm (decide_eq_false ?_))
          omega
      · rw [if_neg c3]
        rw [in_iff] at c3
        refine congrArg some (Eq.symm (decide_eq_false ?_))
        omega
    · rw [if_neg (by simpa using c2)]
      refine congrArg some (Eq.symm (decide_eq_false ?_))
      omega
  · rw [if_neg c1]
    rw [in_iff] at c1
    refine congrArg some (Eq.symm (decide_eq_false ?_))
    omega
theorem shape_eq (s : S25) : spec_ShapeOk.f s = some (shapeB s) := by
  unfold spec_ShapeOk.f shapeB
  generalize s.f0 = a
  generalize s.f1 = b
  generalize s.f2 = c
  simp only [l01In_some, Option.bind_some]
  have hb : inB b 1 4 = true ↔ 1 ≤ b ∧ b ≤ 4 := in_iff
  have key : ∀ x : Bool, (x = true ↔ ((a = 1 ∨ a = 2 ∨ a = 4 ∨ a = 8 ∨ a = 16) ∧ (c = 4 ∨ c = 8 ∨ c = 16 ∨ c = 32) ∧ 1 ≤ b ∧ b ≤ 4)) → x = decide ((a = 1 ∨ a = 2 ∨ a = 4 ∨ a = 8 ∨ a = 16) ∧ (c = 4 ∨ c = 8 ∨ c = 16 ∨ c = 32) ∧ 1 ≤ b ∧ b ≤ 4) := fun x hx => by
    rw [Bool.eq_iff_iff, hx, decide_eq_true_eq]
  repeat' split
  all_goals (refine congrArg some (key _ ?_); simp only [hb, Bool.false_eq_true, false_iff]; omega)

/-! ### Costs -/
def costsB (c : S27) : Bool := inB c.f0 1 20 && (inB c.f1 0 50 && (inB c.f2 0 50 && (inB c.f3 0 50 && (inB c.f4 0 50 && (inB c.f5 0 50 && inB c.f6 0 50)))))
structure CostsIn (q : S27) : Prop where
  a : 1 ≤ q.f0 ∧ q.f0 ≤ 20
  b : 0 ≤ q.f1 ∧ q.f1 ≤ 50
  c : 0 ≤ q.f2 ∧ q.f2 ≤ 50
  d : 0 ≤ q.f3 ∧ q.f3 ≤ 50
  e : 0 ≤ q.f4 ∧ q.f4 ≤ 50
  f : 0 ≤ q.f5 ∧ q.f5 ≤ 50
  g : 0 ≤ q.f6 ∧ q.f6 ≤ 50
theorem costs_in {c : S27} (h : costsB c = true) : CostsIn c := by
  simp only [costsB, Bool.and_eq_true, in_iff] at h
  exact ⟨h.1, h.2.1, h.2.2.1, h.2.2.2.1, h.2.2.2.2.1, h.2.2.2.2.2.1, h.2.2.2.2.2.2⟩
theorem costs_some (c : S27) : spec_CostsOk.f c = some (costsB c) := by
  simp only [spec_CostsOk.f, l01In_some, Option.bind_some, costsB]
  cases inB c.f0 1 20 <;> cases inB c.f1 0 50 <;> cases inB c.f2 0 50 <;> cases inB c.f3 0 50 <;> cases inB c.f4 0 50 <;> cases inB c.f5 0 50 <;> cases inB c.f6 0 50 <;> rfl
theorem costs_ev (c : S27) : Ev (fun k => impl_areCosts.f k c) (costsB c) := by
  unfold impl_areCosts.f
  have hw : ∀ (u v : Bool), u = v → Ev (fun _ => some u) v := fun u v h => h ▸ Ev.ret u
  have st : ∀ (i : Nat) (v : Bool), i < 6 → Ev (fun k => impl_areCosts.l4 k c.f1 c.f2 c.f3 c.f4 c.f5 c.f6 ((i + 1 : Nat) : Int) c) v → Ev (fun k => impl_areCosts.l4 k c.f1 c.f2 c.f3 c.f4 c.f5 c.f6 (i : Int) c) (inB ([c.f1, c.f2, c.f3, c.f4, c.f5, c.f6].getD i 0) 0 50 && v) := fun i v hi h => by
    refine Ev.step ?_
    simp only [impl_areCosts.l4, within_some, Option.bind_some, wrap_succ hi (by omega), Int.toNat_natCast]
    exact Ev.ite_pos (by omega) (Ev.ite_pos ge_0 (Ev.ite_pos (by omega) (Ev.and_true fun _ => h)))
  have last : Ev (fun k => impl_areCosts.l4 k c.f1 c.f2 c.f3 c.f4 c.f5 c.f6 ((6 : Nat) : Int) c) (inB c.f0 1 20) := by
    refine Ev.step ?_
    simp only [impl_areCosts.l4, within_some, Option.bind_some]
    exact Ev.ite_neg (by omega) (Ev.ret _)
  refine Ev.cast (st 0 _ (by omega) (st 1 _ (by omega) (st 2 _ (by omega) (st 3 _ (by omega) (st 4 _ (by omega) (st 5 _ (by omega) last)))))) ?_
  simp only [List.getD_cons_zero, List.getD_cons_succ, costsB]
  cases inB c.f0 1 20 <;> cases inB c.f1 0 50 <;> cases inB c.f2 0 50 <;> cases inB c.f3 0 50 <;> cases inB c.f4 0 50 <;> cases inB c.f5 0 50 <;> cases inB c.f6 0 50 <;> rfl

/-! ### The worst step -/
def opV (c : S27) (op : Int) : Int := if op = 9 ∨ op = 10 then c.f0 + c.f1 else if 15 ≤ op ∧ op ≤ 18 then c.f0 + c.f2 else if 25 ≤ op then c.f0 + c.f5 else c.f0
theorem opV_in {c : S27} (h : CostsIn c) (op : Int) : 1 ≤ opV c op ∧ opV c op ≤ 70 := by
  have := h.a; have := h.b; have := h.c; have := h.f
  unfold opV
  split
  · omega
  · split
    · omega
    · split <;> omega
theorem implOp {c : S27} (h : CostsIn c) (op : Int) : impl_opCost.f c op = some (opV c op) := by
  have e1 : wrap64 (c.f0 + c.f1) = c.f0 + c.f1 := wrap_of (by have := h.a; have := h.b; omega) (by have := h.a; have := h.b; omega)
  have e2 : wrap64 (c.f0 + c.f2) = c.f0 + c.f2 := wrap_of (by have := h.a; have := h.c; omega) (by have := h.a; have := h.c; omega)
  have e3 : wrap64 (c.f0 + c.f5) = c.f0 + c.f5 := wrap_of (by have := h.a; have := h.f; omega) (by have := h.a; have := h.f; omega)
  simp only [impl_opCost.f, within_some, Option.bind_some, e1, e2, e3, opV]
  by_cases h9 : op = 9
  · simp [h9]
  · by_cases h10 : op = 10
    · simp [h10]
    · simp only [h9, h10, or_self, if_false, inB, decide_eq_true_eq]
      split
      · rfl
      · split <;> rfl
theorem forms_ok : ∀ i ∈ List.range 33, (match spec_FormOf.f (i : Int) with | some r => decide (0 ≤ r) | none => false) = true := by decide +kernel
theorem form_ok (i : Nat) (hi : i < 33) : ∃ r, spec_FormOf.f (i : Int) = some r ∧ ¬ r < 0 := by
  have h := forms_ok i (List.mem_range.2 hi)
  revert h
  cases spec_FormOf.f (i : Int) with
  | none => intro h; cases h
  | some r => intro h; exact ⟨r, rfl, by have := of_decide_eq_true h; omega⟩
theorem specOp {c : S27} (h : CostsIn c) (hc : costsB c = true) (i : Nat) (hi : i < 33) : spec_OpCost.f c (i : Int) = some (opV c (i : Int)) := by
  obtain ⟨r, hr, hr0⟩ := form_ok i hi
  have hi := implOp h (i : Int)
  simp only [impl_opCost.f, within_some, Option.bind_some] at hi
  simp only [spec_OpCost.f, costs_some, hc, hr, Option.bind_some, l01In_some, if_true, hr0, if_false]
  exact hi
def accV (c : S27) (x y z : Bool) : Int := (if x then 0 else c.f3) + (if y then 0 else c.f4) + (if z then c.f6 else 0)
theorem implAcc {c : S27} (h : CostsIn c) (x y z : Bool) : impl_accessCost.f c (x, y, z) = some (accV c x y z) := by
  have h1 := h.d; have h2 := h.e; have h3 := h.g
  cases x <;> cases y <;> cases z <;> simp [impl_accessCost.f, accV] <;> (unfold wrap64; omega)
theorem specAcc {c : S27} (h : CostsIn c) (hc : costsB c = true) (x y z : Bool) : spec_AccessCost.f c (x, y, z) = some (accV c x y z) := by
  have h1 := h.d; have h2 := h.e; have h3 := h.g
  cases x <;> cases y <;> cases z <;> simp [spec_AccessCost.f, costs_some, hc, accV] <;> (unfold wrap64; omega)
theorem worstAcc_step {c : S27} (h : CostsIn c) (hc : costsB c = true) (x v : Int) (i : Nat) (hi : i < 8) (b1 b2 b3 : Bool) (u : Int) (h1 : (decide (Int.tmod (i : Int) 2 = 1)) = b1) (h2 : (decide (Int.tmod (wrap64 (Int.tdiv (i : Int) 2)) 2 = 1)) = b2) (h3 : (decide (wrap64 (Int.tdiv (i : Int) 4) = 1)) = b3) (hu : accV c b1 b2 b3 = u)
    (hv : Ev (fun k => spec_WorstAccess.l6 k (max x u) ((i + 1 : Nat) : Int) c) v) : Ev (fun k => spec_WorstAccess.l6 k x (i : Int) c) v := by
  refine Ev.step ?_
  simp only [spec_WorstAccess.l6, wrap_succ hi (by omega), h1, h2, h3, specAcc h hc, hu, Option.bind_some]
  refine Ev.ite_pos (by omega) ?_
  by_cases hx : u > x
  · rw [show max x u = u by omega] at hv
    exact Ev.ite_pos hx hv
  · rw [show max x u = x by omega] at hv
    exact Ev.ite_neg hx hv
theorem worstAcc {c : S27} (h : CostsIn c) (hc : costsB c = true) : Ev (fun k => spec_WorstAccess.f k c) (accV c false false true) := by
  unfold spec_WorstAccess.f
  refine worstAcc_step h hc _ _ 0 (by omega) false false false (c.f3 + c.f4) (by kernel_rfl) (by kernel_rfl) (by kernel_rfl) (by simp [accV]) ?_
  refine worstAcc_step h hc _ _ 1 (by omega) true false false c.f4 (by kernel_rfl) (by kernel_rfl) (by kernel_rfl) (by simp [accV]) ?_
  refine worstAcc_step h hc _ _ 2 (by omega) false true false c.f3 (by kernel_rfl) (by kernel_rfl) (by kernel_rfl) (by simp [accV]) ?_
  refine worstAcc_step h hc _ _ 3 (by omega) true true false 0 (by kernel_rfl) (by kernel_rfl) (by kernel_rfl) (by simp [accV]) ?_
  refine worstAcc_step h hc _ _ 4 (by omega) false false true (c.f3 + c.f4 + c.f6) (by kernel_rfl) (by kernel_rfl) (by kernel_rfl) (by simp [accV]) ?_
  refine worstAcc_step h hc _ _ 5 (by omega) true false true (c.f4 + c.f6) (by kernel_rfl) (by kernel_rfl) (by kernel_rfl) (by simp [accV]) ?_
  refine worstAcc_step h hc _ _ 6 (by omega) false true true (c.f3 + c.f6) (by kernel_rfl) (by kernel_rfl) (by kernel_rfl) (by simp [accV]) ?_
  refine worstAcc_step h hc _ _ 7 (by omega) true true true c.f6 (by kernel_rfl) (by kernel_rfl) (by kernel_rfl) (by simp [accV]) ?_
  refine Ev.step ?_
  simp only [spec_WorstAccess.l6]
  refine Ev.ite_neg (by omega) (Ev.cast (Ev.ret _) ?_)
  have h1 := h.d; have h2 := h.e; have h3 := h.g
  simp only [accV, if_true, if_false, Bool.false_eq_true]
  omega
/-- The greatest of the ops' costs from number i on, and of x. -/
def maxOp (c : S27) : Nat → Nat → Int → Int
  | 0, _, x => x
  | n + 1, i, x => maxOp c n (i + 1) (max x (opV c (i : Int)))
theorem maxOp_in {c : S27} (h : CostsIn c) : ∀ (n i : Nat) (x : Int), 0 ≤ x → x ≤ 70 → 0 ≤ maxOp c n i x ∧ maxOp c n i x ≤ 70
  | 0, _, x, h0, h1 => ⟨h0, h1⟩
  | n + 1, i, x, h0, h1 => by
    have := opV_in h (i : Int)
    exact maxOp_in h n (i + 1) _ (by omega) (by omega)
def stepV (c : S27) : Int := maxOp c 33 0 0 + 2 * (c.f3 + c.f4 + c.f6) + c.f5
theorem stepV_in {c : S27} (h : CostsIn c) : 0 ≤ stepV c ∧ stepV c ≤ 420 := by
  have := maxOp_in h 33 0 0 (by omega) (by omega)
  have := h.d; have := h.e; have := h.f; have := h.g
  unfold stepV; omega
theorem step_last {c : S27} (h : CostsIn c) (x : Int) (h0 : 0 ≤ x) (h1 : x ≤ 70) : wrap64 (wrap64 (x + wrap64 (2 * accV c false false true)) + c.f5) = x + 2 * (c.f3 + c.f4 + c.f6) + c.f5 := by
  have := h.d; have := h.e; have := h.f; have := h.g
  simp only [accV, if_true, if_false, Bool.false_eq_true]
  rw [wrap_of (a := 2 * (c.f3 + c.f4 + c.f6)) (by omega) (by omega), wrap_of (a := x + 2 * (c.f3 + c.f4 + c.f6)) (by omega) (by omega), wrap_of (by omega) (by omega)]
theorem specStep_l {c : S27} (h : CostsIn c) (hc : costsB c = true) : ∀ (n i : Nat) (x : Int), i + n = 33 → 0 ≤ x → x ≤ 70 → Ev (fun k => spec_WorstStep.l10 k x (i : Int) c) (maxOp c n i x + 2 * (c.f3 + c.f4 + c.f6) + c.f5)
  | 0, i, x, hi, h0, h1 => by
    refine Ev.step ?_
    simp only [spec_WorstStep.l10]
    exact Ev.ite_neg (by omega) (Ev.bind (worstAcc h hc) (Ev.of (congrArg some (step_last h x h0 h1))))
  | n + 1, i, x, hi, h0, h1 => by
    have hv := opV_in h (i : Int)
    have hlt : i < 33 := by omega
    refine Ev.step ?_
    simp only [spec_WorstStep.l10, specOp h hc i hlt, Option.bind_some, wrap_succ hlt (by omega)]
    refine Ev.ite_pos (by omega) ?_
    by_cases hx : opV c (i : Int) > x
    · have := specStep_l h hc n (i + 1) (opV c (i : Int)) (by omega) (by omega) (by omega)
      refine Ev.ite_pos hx (Ev.cast this ?_)
      rw [maxOp, show max x (opV c (i : Int)) = opV c (i : Int) by omega]
    · have := specStep_l h hc n (i + 1) x (by omega) (by omega) (by omega)
      refine Ev.ite_neg hx (Ev.cast this ?_)
      rw [maxOp, show max x (opV c (i : Int)) = x by omega]
theorem specStep {c : S27} (hc : costsB c = true) : Ev (fun k => spec_WorstStep.f k c) (stepV c) := by
  unfold spec_WorstStep.f
  simp only [costs_some, hc, Option.bind_some, if_true]
  exact specStep_l (costs_in hc) hc 33 0 0 (by omega) (by omega) (by omega)
theorem implStep_l {c : S27} (h : CostsIn c) : ∀ (n i : Nat) (x : Int), i + n = 33 → 0 ≤ x → x ≤ 70 → Ev (fun k => impl_WorstStep.l10 k x (i : Int) c) (maxOp c n i x + 2 * (c.f3 + c.f4 + c.f6) + c.f5)
  | 0, i, x, hi, h0, h1 => by
    refine Ev.step ?_
    simp only [impl_WorstStep.l10, implAcc h, Option.bind_some]
    exact Ev.ite_neg (by omega) (Ev.of (congrArg some (step_last h x h0 h1)))
  | n + 1, i, x, hi, h0, h1 => by
    have hv := opV_in h (i : Int)
    have hlt : i < 33 := by omega
    refine Ev.step ?_
    simp only [impl_WorstStep.l10, implOp h, Option.bind_some, wrap_succ hlt (by omega)]
    refine Ev.ite_pos (by omega) ?_
    rw [show mx x (opV c (i : Int)) = max x (opV c (i : Int)) by unfold mx; omega]
    exact implStep_l h n (i + 1) _ (by omega) (by omega) (by omega)
theorem implStep {c : S27} (hc : costsB c = true) : Ev (fun k => impl_worstStep.f k c) (stepV c) := by
  unfold impl_worstStep.f impl_WorstStep.f
  refine Ev.bind (Ev.bind (costs_ev c) ?_) (Ev.ret _)
  exact Ev.ite_pos hc (implStep_l (costs_in hc) 33 0 0 (by omega) (by omega) (by omega))

/-! ### The head -/
def spanB (a : Int) : Bool := inB a 1 5000
theorem span_some (a : Int) : impl_isSpan.f a = some (spanB a) := by unfold impl_isSpan.f; rw [within_some]; rfl
def headB (t : S33) : Bool := inB t.f0 64 2048 && (decide (t.f0.tmod 4 = 0) && (shapeB t.f1 && (inB t.f2 1 8 && (costsB t.f3 && (spanB t.f4 && (spanB t.f5 && (spanB t.f6 && decide (t.f5 ≥ stepV t.f3))))))))
theorem head_ev (t : S33) : Ev (fun k => spec_l13Head.f k t) (headB t) := by
  unfold spec_l13Head.f headB
  simp only [l01In_some, shape_eq, costs_some, Option.bind_some]
  exact Ev.and_true fun _ => Ev.and_prop fun _ => Ev.and_true fun _ => Ev.and_true fun _ => Ev.and_true fun hc => Ev.and_true fun _ => Ev.and_true fun _ => Ev.and_true fun _ => Ev.bind (specStep hc) (Ev.ret _)
end Go.Proofs.YtcjfheidmlcbfaaGreatDoor.PSr
