/- A region that draws its order and makes memory: loads taken ahead, the calls in the one order that is left. The first half is lines of the kit's printed words (print.sh's WLast), turned to this namespace. -/
import Derived.Test.YtcjfheidmlcbfaaGreatDoorSV8
import Derived.OrdersHeld
import Derived.Deep.RegionHeld3
set_option linter.unusedVariables false
set_option linter.unusedSimpArgs false
set_option linter.unusedSectionVars false
namespace Go.Proofs.YtcjfheidmlcbfaaGreatDoor.V
open Go.RowKit

section
variable {P : Program} {ops : Array Oper} {Q : Exit → Act → World → Prop} {md : Region.Mode} {S : World → Prop} {ds : List Nat}

def ListedClosed (md : Region.Mode) (ops : Array Oper) (listed : Array Bool) : Prop :=
  ∀ j oj, ops[j]? = some oj → listed.getD j false = true → ∀ e ∈ oj.after, Region.binds md e = true → listed.getD e.on false = true

theorem Region.closedB_spec {listed : Array Bool} (h : Region.closedB md ops listed = true) : ListedClosed md ops listed := by
  intro j oj hj hl e he hb
  have hlt : j < ops.size := (Array.getElem?_eq_some_iff.1 hj).1
  have h1 := List.all_eq_true.1 h j (List.mem_range.2 hlt)
  simp only [hl, hj, Bool.not_true, Bool.false_or] at h1
  have h2 := Array.all_eq_true_iff_forall_mem.1 h1 e he
  simpa [hb] using h2

theorem ListedClosed.set {listed : Array Bool} {i : Nat} (h : ListedClosed md ops listed) (hi : i ∈ Region.ready md ops listed) : ListedClosed md ops (listed.setIfInBounds i true) := by
  obtain ⟨_, oi, hoi, hall⟩ := mem_ready.1 hi
  intro j oj hj hl e he hb
  by_cases hij : i = j
  · subst hij
    have : oj = oi := Option.some.inj (hj.symm.trans hoi)
    subst this
    exact getD_set_true (hall e he hb)
  · rw [getD_set_ne false hij] at hl
    exact getD_set_true (h j oj hj hl e he hb)

theorem Region.reach_listed {listed : Array Bool} {i : Nat} (hc : ListedClosed md ops listed) : ∀ (fuel d : Nat), Region.reachB md ops i fuel d = true → listed.getD d false = true → listed.getD i false = true
  | 0, _, h, _ => by simp [Region.reachB] at h
  | fuel + 1, d, h, hl => by
    unfold Region.reachB at h
    cases ho : ops[d]? with
    | none => rw [ho] at h; simp at h
    | some o =>
      rw [ho] at h
      obtain ⟨e, he, h1⟩ := Array.any_eq_true'.1 h
      simp only [Bool.and_eq_true, Bool.or_eq_true, beq_iff_eq] at h1
      have hle := hc d o ho hl e he h1.1
      rcases h1.2 with h2 | h2
      · rw [← h2]; exact hle
      · exact Region.reach_listed hc fuel e.on h2 hle

/-- What waits for i cannot come up before i is listed. -/
theorem Region.reach_not_ready {listed : Array Bool} {i d fuel : Nat} (hc : ListedClosed md ops listed) (hr : Region.reachB md ops i fuel d = true) (hun : listed.getD i true = false) : d ∉ Region.ready md ops listed := by
  intro hd
  obtain ⟨_, o, ho, hall⟩ := mem_ready.1 hd
  have hi : listed.getD i false = true := by
    cases fuel with
    | zero => simp [Region.reachB] at hr
    | succ n =>
      unfold Region.reachB at hr
      rw [ho] at hr
      obtain ⟨e, he, h1⟩ := Array.any_eq_true'.1 hr
      simp only [Bool.and_eq_true, Bool.or_eq_true, beq_iff_eq] at h1
      have hle := hall e he h1.1
      rcases h1.2 with h2 | h2
      · rw [← h2]; exact hle
      · exact Region.reach_listed hc n e.on h2 hle
  rcases Nat.lt_or_ge i listed.size with h' | h'
  · simp [h'] at hun hi
    rw [hun] at hi
    cases hi
  · simp [Array.getElem?_eq_none h'] at hun

/-- Whatever order is picked from here on, AND 'S' HOLDS BEHIND EVERY OPERATION THAT IS CARRIED OUT, those of ds apart. -/
def wpAnyLast (P : Program) (md : Region.Mode) (ops : Array Oper) (Q : Exit → Act → World → Prop) (S : World → Prop) (ds : List Nat) : Nat → Array Bool → Act → World → Prop
  | 0, listed, a, w => Region.ready md ops listed = [] ∧ Q .normal a w
  | fuel + 1, listed, a, w =>
    (Region.ready md ops listed = [] → Q .normal a w) ∧
    ∀ i ∈ Region.ready md ops listed, wpOp P ops Q i (fun a' w' => (i ∉ ds → S w → S w') ∧ wpAnyLast P md ops Q S ds fuel (listed.setIfInBounds i true) a' w') a w

theorem wpAny_of_last : ∀ (fuel : Nat) (listed : Array Bool) (a : Act) (w : World), wpAnyLast P md ops Q S ds fuel listed a w → wpAny P md ops Q fuel listed a w
  | 0, _, _, _, h => h
  | fuel + 1, _, _, _, h => ⟨h.1, fun i hi => wpOp_mono (fun a' w' h' => wpAny_of_last fuel _ a' w' h'.2) (h.2 i hi)⟩

theorem wpAnyLast_first {i : Nat} {oi : Oper} {v : Value} (hi : ops[i]? = some oi) (hsel : ∀ (j : Nat) (o : Oper) cs b, ops[j]? = some o → o.op ≠ .select cs b)
    (hQ : ∀ c a w, Q (.panic c) (a.put oi.dst v) w → Q (.panic c) a w) (n : Nat) :
    ∀ (fuel : Nat) (listed : Array Bool) (a : Act) (w : World),
      (∀ j oj, ops[j]? = some oj → j ≠ i → listed.getD j true = false → (∀ e ∈ oj.after, Region.binds md e = true → e.on ≠ i) → oi.apart ops oj = true) →
      ListedClosed md ops listed → (∀ d ∈ ds, listed.getD d true = false → Region.reachB md ops i n d = true) →
      i ∈ Region.ready md ops listed → YieldsIf P ops S oi v a → S w →
      wpAnyLast P md ops Q S ds fuel (listed.setIfInBounds i true) (a.put oi.dst v) w → wpAnyLast P md ops Q S ds (fuel + 1) listed a w := by
  intro fuel
  induction fuel with
  | zero =>
    intro listed a w _ _ _ hr hy hS H
    refine ⟨fun h => (by rw [h] at hr; cases hr), fun j hj => ?_⟩
    by_cases hji : j = i
    · subst hji; exact hy.wpOp hi hS ⟨fun _ h => h, H⟩
    · have := ready_mono hj hji
      rw [H.1] at this
      cases this
  | succ fuel ih =>
    intro listed a w hfree hc hd hr hy hS H
    refine ⟨fun h => (by rw [h] at hr; cases hr), fun j hj => ?_⟩
    by_cases hji : j = i
    · subst hji; exact hy.wpOp hi hS ⟨fun _ h => h, H⟩
    · have h1 := H.2 j (ready_mono hj hji)
      obtain ⟨hjun, oj, hoj, hall⟩ := mem_ready.1 hj
      have hiun := (mem_ready.1 hr).1
      have hnot : ∀ e ∈ oj.after, Region.binds md e = true → e.on ≠ i := fun e he hb heq => by
        have h1 := hall e he hb
        rw [heq] at h1
        rcases Nat.lt_or_ge i listed.size with h' | h'
        · simp [h'] at hiun h1; rw [hiun] at h1; cases h1
        · simp [Array.getElem?_eq_none h'] at h1
      have hjd : j ∉ ds := fun hm => Region.reach_not_ready hc (hd j hm hjun) hiun hj
      have h2 := wpOp_putIf hoj (hfree j oj hoj hji hjun hnot) (fun cs b => hsel i oi cs b hi) (fun cs b => hsel j oj cs b hoj) hQ hy h1
      have hfree' : ∀ k ok, ops[k]? = some ok → k ≠ i → (listed.setIfInBounds j true).getD k true = false →
          (∀ e ∈ ok.after, Region.binds md e = true → e.on ≠ i) → oi.apart ops ok = true := fun k ok hk hki hun hno => by
        refine hfree k ok hk hki ?_ hno
        by_cases hjk : j = k
        · subst hjk; exact hjun
        · rw [getD_set_ne true hjk] at hun; exact hun
      have hd' : ∀ d ∈ ds, (listed.setIfInBounds j true).getD d true = false → Region.reachB md ops i n d = true := fun d hm hun => by
        refine hd d hm ?_
        by_cases hjk : j = d
        · subst hjk; exact hjun
        · rw [getD_set_ne true hjk] at hun; exact hun
      refine wpOp_mono (fun a' w' h3 => ⟨h3.2.1, ih (listed.setIfInBounds j true) a' w' hfree' (hc.set hj) hd' (ready_mono hr (Ne.symm hji)) h3.1 (h3.2.1 hjd hS) ?_⟩) h2
      rw [Array.setIfInBounds_comm _ _ hji]
      exact h3.2.2

/-- What yields the same in every world may be taken first. -/
theorem wpAnyLast_firstM {i : Nat} {oi : Oper} {v : Value} (hi : ops[i]? = some oi) (hsel : ∀ (j : Nat) (o : Oper) cs b, ops[j]? = some o → o.op ≠ .select cs b)
    (hQ : ∀ c a w, Q (.panic c) (a.put oi.dst v) w → Q (.panic c) a w) :
    ∀ (fuel : Nat) (listed : Array Bool) (a : Act) (w : World),
      (∀ j oj, ops[j]? = some oj → j ≠ i → listed.getD j true = false → (∀ e ∈ oj.after, Region.binds md e = true → e.on ≠ i) → oi.apart ops oj = true) →
      i ∈ Region.ready md ops listed → YieldsIf P ops (fun _ => True) oi v a →
      wpAnyLast P md ops Q S ds fuel (listed.setIfInBounds i true) (a.put oi.dst v) w → wpAnyLast P md ops Q S ds (fuel + 1) listed a w := by
  intro fuel
  induction fuel with
  | zero =>
    intro listed a w _ hr hy H
    refine ⟨fun h => (by rw [h] at hr; cases hr), fun j hj => ?_⟩
    by_cases hji : j = i
    · subst hji; exact hy.wpOp hi trivial ⟨fun _ h => h, H⟩
    · have := ready_mono hj hji
      rw [H.1] at this
      cases this
  | succ fuel ih =>
    intro listed a w hfree hr hy H
    refine ⟨fun h => (by rw [h] at hr; cases hr), fun j hj => ?_⟩
    by_cases hji : j = i
    · subst hji; exact hy.wpOp hi trivial ⟨fun _ h => h, H⟩
    · have h1 := H.2 j (ready_mono hj hji)
      obtain ⟨hjun, oj, hoj, hall⟩ := mem_ready.1 hj
      have hiun := (mem_ready.1 hr).1
      have hnot : ∀ e ∈ oj.after, Region.binds md e = true → e.on ≠ i := fun e he hb heq => by
        have h1 := hall e he hb
        rw [heq] at h1
        rcases Nat.lt_or_ge i listed.size with h' | h'
        · simp [h'] at hiun h1; rw [hiun] at h1; cases h1
        · simp [Array.getElem?_eq_none h'] at h1
      have h2 := wpOp_putIf hoj (hfree j oj hoj hji hjun hnot) (fun cs b => hsel i oi cs b hi) (fun cs b => hsel j oj cs b hoj) hQ hy h1
      have hfree' : ∀ k ok, ops[k]? = some ok → k ≠ i → (listed.setIfInBounds j true).getD k true = false →
          (∀ e ∈ ok.after, Region.binds md e = true → e.on ≠ i) → oi.apart ops ok = true := fun k ok hk hki hun hno => by
        refine hfree k ok hk hki ?_ hno
        by_cases hjk : j = k
        · subst hjk; exact hjun
        · rw [getD_set_ne true hjk] at hun; exact hun
      refine wpOp_mono (fun a' w' h3 => ⟨h3.2.1, ih (listed.setIfInBounds j true) a' w' hfree' (ready_mono hr (Ne.symm hji)) h3.1 ?_⟩) h2
      rw [Array.setIfInBounds_comm _ _ hji]
      exact h3.2.2

/-- Take number 'i' first. -/
theorem wpAnyLast_take {i : Nat} {oi : Oper} {v : Value} {fuel : Nat} {listed : Array Bool} {a : Act} {w : World} (hi : ops[i]? = some oi)
    (hs : Region.noSelect ops = true) (hf : Region.free md ops listed i = true) (hr : (Region.ready md ops listed).contains i = true)
    (hc : Region.closedB md ops listed = true) (hl : Region.lastB md ops listed ds i = true)
    (hQ : ∀ c a w, Q (.panic c) (a.put oi.dst v) w → Q (.panic c) a w) (hy : YieldsIf P ops S oi v a) (hS : S w)
    (h : wpAnyLast P md ops Q S ds fuel (listed.setIfInBounds i true) (a.put oi.dst v) w) : wpAnyLast P md ops Q S ds (fuel + 1) listed a w :=
  wpAnyLast_first hi (Region.noSelect_spec hs) hQ ops.size fuel listed a w (Region.free_spec hi hf) (Region.closedB_spec hc)
    (fun d hm hun => by have := List.all_eq_true.1 hl d hm; rw [hun] at this; simpa using this) (by simpa using hr) hy hS h

theorem wpAnyLast_all {rs : List Nat} {fuel : Nat} {listed : Array Bool} {a : Act} {w : World} (hr : Region.ready md ops listed = rs) (hne : rs ≠ [])
    (h : ∀ i ∈ rs, wpOp P ops Q i (fun a' w' => (i ∉ ds → S w → S w') ∧ wpAnyLast P md ops Q S ds fuel (listed.setIfInBounds i true) a' w') a w) : wpAnyLast P md ops Q S ds (fuel + 1) listed a w :=
  ⟨fun h0 => absurd (hr ▸ h0) hne, hr ▸ h⟩

theorem wpAnyLast_done {listed : Array Bool} {a : Act} {w : World} (hr : Region.ready md ops listed = []) (h : Q .normal a w) :
    ∀ fuel, wpAnyLast P md ops Q S ds fuel listed a w
  | 0 => ⟨hr, h⟩
  | _ + 1 => ⟨fun _ => h, by rw [hr]; simp⟩

theorem wp_region_last {id : Nat} {a : Act} {w : World} (hm : P.follows .mixedOrders = true)
    (h : wpAnyLast P .any ops Q S ds ops.size (Array.replicate ops.size false) a { w with drawn := w.drawn + 1 }) : (Code.region id ops true).wp P Q a w :=
  wp_region_any hm (wpAny_of_last _ _ _ _ h)

end

section
variable {P : Program} {R : Type} {C : Cx} {r : R}

variable {T : Nat → Option TI} {cf cq : CF R} {io : Nat → Bool} (hT : TOK P T) (hcf : CFok P cf) (hcq : CFq P cq) {nt : Nat}
include hT hcf hcq

omit hcf in
theorem callB_r {s : St} {a : Act} (hH : HeapR C) (hh : C.H = s.heap) (ht : TR C nt s.tmps a) {f : Operand} {args : Array Operand} {k : AV → List Blk → Option R} (h : callK cq s f args.toList k = some r) {dst : Option Tmp} {ats : Array TypeId} {type : TypeId} {pos : String} {after : Array Edge} {guard : Option (Nat × Bool)} :
    GoodB P C r k a ⟨dst, .call ⟨.value f, args, ats⟩, type, pos, after, guard⟩ := by
  obtain ⟨v, H', hk, hall⟩ := enterq_r (nt := nt) (a := a) hcq h (dst := dst) (ats := ats) (type := type) (pos := pos) (after := after) (guard := guard)
  obtain ⟨fn, vs, hrun, hcall⟩ := hall C hH hh ht
  intro next Q hn
  unfold Oper.wp
  rw [hrun, Oper.upon_enter]
  refine hcall.mono fun e w' he => ?_
  obtain ⟨u, C', rfl, rfl, rfl, h1, h2, h3, h4, h5⟩ := he
  exact hn u v C' hk h1 h2 h3 h5 h4

omit hcf in
theorem mild_r {s : St} {a : Act} (hH : HeapR C) (hh : C.H = s.heap) (ht : TR C nt s.tmps a) {o : Oper} {k : AV → List Blk → Option R} (hm : mildOp T io o.op = true) (h : opK T cq s o.op k = some r) : GoodB P C r k a o := by
  have plain : ∀ {o : Oper}, opP T s o.op (fun v => k v s.heap) = some r → GoodB P C r k a o := by
    intro o h
    obtain ⟨v, av, h1, h2, h3⟩ := opP_r hT hH hh ht h
    intro next Q hn
    unfold Oper.wp
    rw [h3 C.w fun _ _ => rfl]
    exact hn v av C (by rw [hh]; exact h1) (.refl C) hH (.refl C) ⟨rfl, rfl, rfl, Nat.le_refl _, fun _ _ => rfl⟩ h2
  obtain ⟨dst, op, type, pos, after, guard⟩ := o
  simp only at h hm
  unfold opK at h
  split at h
  case h_1 =>
    split at h
    case h_2 => cases h
    rename_i ti hti
    exact alloc_b hT hH hh hti h
  case h_2 =>
    split at h
    case h_2 => cases h
    rename_i ti hti
    obtain ⟨_, h⟩ := beq_cond h
    obtain ⟨hk, h⟩ := bool_cond h
    exact box_b hT hH hh ht hti hk h
  case h_4 => exact make_b hT hH hh ht h
  case h_5 => exact buildSlice_b hT hH hh ht h
  case h_6 =>
    rename_i c
    obtain ⟨callee, args, ats⟩ := c
    simp only at h
    split at h
    · exact callB_r hT hcq hH hh ht h
    · cases hm
    · cases hm
    · exact plain h
  case h_7 =>
    rename_i t1 t2 x
    cases hc : isStob T t1 t2
    · rw [hc] at h
      exact plain h
    · simp only [mildOp, hc] at hm
      cases hm
  case h_8 => exact sliceO_b hT hH hh ht h
  case h_9 => exact plain h
  all_goals cases hm

omit hcf hcq in
theorem pure_r {s : St} {a : Act} (hH : HeapR C) (hh : C.H = s.heap) (ht : TR C nt s.tmps a) {o : Oper} {k : AV → Option R} (h : opP T s o.op k = some r) :
    ∃ v av, k av = some r ∧ AVR C av v ∧ ∀ w', Below C.w.heap.size C.w w' → (execOp a.eval o).run P w' = .ok (.value v) w' := by
  obtain ⟨v, av, h1, h2, h3⟩ := opP_r hT hH hh ht h
  exact ⟨v, av, h1, h2, fun w' hw => h3 w' fun b hb => hw.block b hb⟩

omit hT hcf hcq in
theorem sameL_r {f : Nat → Option R} : ∀ {l : List Nat} {i : Nat}, sameL f i l = some r → ∀ j ∈ i :: l, f j = some r
  | [], i, h, j, hj => by obtain rfl : j = i := by simpa using hj
                          exact h
  | m :: l, i, h, j, hj => by
    obtain ⟨h1, h2⟩ := sameO_r h
    rcases List.mem_cons.1 hj with rfl | hj
    · exact h1
    · exact sameL_r h2 j hj

omit hcf hcq in
theorem stepT_r {ops : Array Oper} {ds : List Nat} {next : Array Bool → St → Option R} {Q : Exit → Act → World → Prop} {S : World → Prop} (hns : Region.noSelect ops = true) (hQ : ∀ c a w, Q (.panic c) a w → False) (fuel : Nat) (L : Array Bool) {C : Cx} {s : St} {a : Act} (hh : C.H = s.heap) (hH : HeapR C) (ht : TR C nt s.tmps a) {i : Nat} (hp : pickT ops L = some i)
    (h : stepT T nt ops L s next i = some r)
    (hn : ∀ s' a', C.H = s'.heap → TR C nt s'.tmps a' → next (L.setIfInBounds i true) s' = some r → wpAnyLast P .any ops Q S ds fuel (L.setIfInBounds i true) a' C.w) :
    wpAnyLast P .any ops Q S ds (fuel + 1) L a C.w := by
  unfold stepT at h
  split at h
  case h_1 => cases h
  rename_i o ho
  have hr : i ∈ Region.ready .any ops L := List.mem_of_find?_eq_some hp
  have hf := List.find?_some hp
  rw [ho] at hf
  simp only [Bool.and_eq_true] at hf
  obtain ⟨s', ht', hs', hg⟩ := guardK_r ht h
  rcases hg with ⟨hw, h⟩ | ⟨hw, h⟩
  · obtain ⟨hd, h⟩ := dst_r h
    obtain ⟨v, av, hk, hav, hall⟩ := opF_r hT hH (hh.trans hs'.symm) ht' h
    exact wpAnyLast_firstM ho (Region.noSelect_spec hns) (fun c a w h => (hQ c _ w h).elim) fuel L a C.w (Region.free_spec ho hf.2) hr (.inl ⟨hw, fun w _ => hall w⟩)
      (hn _ _ ((hh.trans hs'.symm).trans (put_heap _ _ _).symm) (ht'.put hd hav) hk)
  · obtain ⟨hd, h⟩ := dst_r h
    exact wpAnyLast_firstM ho (Region.noSelect_spec hns) (fun c a w h => (hQ c _ w h).elim) fuel L a C.w (Region.free_spec ho hf.2) hr (.inr ⟨hw, rfl⟩)
      (hn _ _ ((hh.trans hs'.symm).trans (put_heap _ _ _).symm) (ht'.put hd (av := .c .un) (v := undef) rfl) h)

theorem stepF_r {ops : Array Oper} {ds : List Nat} {next : Array Bool → St → Option R} {Q : Exit → Act → World → Prop} {S : World → Prop} (hS : ∀ w w', S w → Below w.heap.size w w' → S w') (fuel : Nat) (L : Array Bool) {C : Cx} {s : St} {a : Act} (hh : C.H = s.heap) (hH : HeapR C) (ht : TR C nt s.tmps a) {j : Nat}
    (h : stepF T cf cq io nt ops ds L s next j = some r)
    (hn : ∀ C' s' a', C.le C' → Frm C C' → C'.H = s'.heap → HeapR C' → TR C' nt s'.tmps a' → next (L.setIfInBounds j true) s' = some r → wpAnyLast P .any ops Q S ds fuel (L.setIfInBounds j true) a' C'.w) :
    wpOp P ops Q j (fun a' w' => (j ∉ ds → S C.w → S w') ∧ wpAnyLast P .any ops Q S ds fuel (L.setIfInBounds j true) a' w') a C.w := by
  unfold stepF at h
  split at h
  case h_1 => cases h
  rename_i o ho
  obtain ⟨hmild, h⟩ := bool_cond h
  obtain ⟨s', ht', hs', hg⟩ := guardK_r ht h
  unfold wpOp
  rw [ho]
  simp only
  rcases hg with ⟨hw, h⟩ | ⟨hw, h⟩
  · rw [if_pos hw]
    left
    obtain ⟨hd, h⟩ := dst_r h
    have step : ∀ v av C', next (L.setIfInBounds j true) (St.put ⟨s'.tmps, C'.H⟩ o.dst av) = some r → C.le C' → HeapR C' → Frm C C' → AVR C' av v → wpAnyLast P .any ops Q S ds fuel (L.setIfInBounds j true) (a.put o.dst v) C'.w := by
      intro v av C' hk h1 h2 h3 h4
      have htp : TR C' nt (St.put ⟨s'.tmps, C'.H⟩ o.dst av).tmps (a.put o.dst v) := TR.put (s := ⟨s'.tmps, C'.H⟩) (ht'.mono h1) hd h4
      exact hn C' _ _ h1 h3 (put_heap ⟨s'.tmps, C'.H⟩ o.dst av).symm h2 htp hk
    cases hm : mildOp T io o.op
    · rw [hm] at h hmild
      simp only [Bool.false_or] at hmild
      exact opK_r hT hcf hH (hh.trans hs'.symm) ht' h _ _ fun v av C' hk h1 h2 h3 h4 => ⟨fun hn => absurd (by simpa using hmild) hn, step v av C' hk h1 h2 h3 h4⟩
    · rw [hm] at h
      exact mild_r (io := io) hT hcq hH (hh.trans hs'.symm) ht' hm h _ _ fun v av C' hk h1 h2 h3 h5 h4 => ⟨fun _ hs => hS _ _ hs h5, step v av C' hk h1 h2 h3 h4⟩
  · rw [if_neg (by rw [hw]; simp)]
    obtain ⟨hd, h⟩ := dst_r h
    have htp : TR C nt (s'.put o.dst (.c .un)).tmps (a.put o.dst undef) := ht'.put hd rfl
    exact ⟨fun _ hs => hs, hn C _ _ (.refl C) (.refl C) ((hh.trans hs'.symm).trans (put_heap _ _ _).symm) hH htp h⟩

/-- What must come up, in whatever order is left. -/
theorem goF_r {ops : Array Oper} {ds : List Nat} {k : St → Option R} {Q : Exit → Act → World → Prop} {S : World → Prop} (hns : Region.noSelect ops = true) (hQ : ∀ c a w, Q (.panic c) a w → False) (hS : ∀ w w', S w → Below w.heap.size w w' → S w') :
    ∀ (fuel : Nat) (L : Array Bool) {C : Cx} {s : St} {a : Act}, C.H = s.heap → HeapR C → TR C nt s.tmps a →
    goF T cf cq io nt ops ds k fuel L s = some r → (∀ C' s' a', C.le C' → Frm C C' → C'.H = s'.heap → HeapR C' → TR C' nt s'.tmps a' → k s' = some r → Q .normal a' C'.w) → wpAnyLast P .any ops Q S ds fuel L a C.w
  | 0, L, C, s, a, hh, hH, ht, h, hq => by
    unfold goF at h
    obtain ⟨hr, h⟩ := bool_cond h
    exact wpAnyLast_done (by simpa using hr) (hq C s a (.refl C) (.refl C) hh hH ht h) 0
  | fuel + 1, L, C, s, a, hh, hH, ht, h, hq => by
    unfold goF at h
    have one : ∀ j, stepF T cf cq io nt ops ds L s (fun L s => goF T cf cq io nt ops ds k fuel L s) j = some r → wpOp P ops Q j (fun a' w' => (j ∉ ds → S C.w → S w') ∧ wpAnyLast P .any ops Q S ds fuel (L.setIfInBounds j true) a' w') a C.w := fun j h =>
      stepF_r hT hcf hcq hS fuel L hh hH ht h fun C' s' a' h1 h3 h4 h2 h5 h6 => goF_r hns hQ hS fuel _ h4 h2 h5 h6 fun C2 s2 a2 k1 k2 k3 k4 k5 k6 => hq C2 s2 a2 (h1.trans k1) (h3.trans h1 k2) k3 k4 k5 k6
    split at h
    · rename_i i hp
      exact stepT_r hT hns hQ fuel L hh hH ht hp h fun s' a' k1 k2 k3 => goF_r hns hQ hS fuel _ k1 hH k2 k3 hq
    split at h
    · rename_i hr
      exact wpAnyLast_done hr (hq C s a (.refl C) (.refl C) hh hH ht h) _
    · rename_i i l hr
      exact wpAnyLast_all hr (by simp) fun j hj => one j (sameL_r h j hj)

omit hcf hcq in
/-- What is taken ahead. -/
theorem goH_r {ops : Array Oper} {ds : List Nat} {k : Array Bool → St → Option R} {Q : Exit → Act → World → Prop} (hQ : ∀ c a w, Q (.panic c) a w → False) (hH : HeapR C) (hns : Region.noSelect ops = true) :
    ∀ (is : List Nat) (fuel : Nat) (L : Array Bool) {s : St} {a : Act}, C.H = s.heap → TR C nt s.tmps a →
    goH T nt ops ds is L s k = some r → (∀ L' s' a', C.H = s'.heap → TR C nt s'.tmps a' → k L' s' = some r → wpAnyLast P .any ops Q (Below C.w.heap.size C.w) ds fuel L' a' C.w) → wpAnyLast P .any ops Q (Below C.w.heap.size C.w) ds (is.length + fuel) L a C.w
  | [], fuel, L, s, a, hh, ht, h, hq => by simpa using hq L s a hh ht h
  | i :: is, fuel, L, s, a, hh, ht, h, hq => by
    unfold goH at h
    split at h
    case h_1 => cases h
    rename_i o ho
    obtain ⟨hc, h⟩ := bool_cond h
    unfold takeB at hc
    simp only [Bool.and_eq_true] at hc
    obtain ⟨⟨⟨hr, hfr⟩, hcl⟩, hla⟩ := hc
    obtain ⟨s', ht', hs', hg⟩ := guardK_r ht h
    have hS : Below C.w.heap.size C.w C.w := ⟨rfl, rfl, rfl, Nat.le_refl _, fun _ _ => rfl⟩
    rw [show (i :: is).length + fuel = (is.length + fuel) + 1 by simp; omega]
    rcases hg with ⟨hw, h⟩ | ⟨hw, h⟩
    · obtain ⟨hd, h⟩ := dst_r h
      obtain ⟨v, av, hk, hav, hall⟩ := pure_r hT hH (hh.trans hs'.symm) ht' h
      exact wpAnyLast_take ho hns hfr hr hcl hla (fun c a w h => (hQ c _ w h).elim) (.inl ⟨hw, hall⟩) hS
        (goH_r hQ hH hns is fuel _ ((hh.trans hs'.symm).trans (put_heap _ _ _).symm) (ht'.put hd hav) hk hq)
    · obtain ⟨hd, h⟩ := dst_r h
      exact wpAnyLast_take ho hns hfr hr hcl hla (fun c a w h => (hQ c _ w h).elim) (.inr ⟨hw, rfl⟩) hS
        (goH_r hQ hH hns is fuel _ ((hh.trans hs'.symm).trans (put_heap _ _ _).symm) (ht'.put hd (av := .c .un) (v := undef) rfl) h hq)

/-- **A region that draws its order and makes memory.** -/
theorem goM_r (hmix : P.follows .mixedOrders = true) {id : Nat} {ops : Array Oper} {k : St → Option R} {Q : Exit → Act → World → Prop} {s : St} {a : Act} (hH : HeapR C) (hh : C.H = s.heap) (ht : TR C nt s.tmps a)
    (h : goM T cf cq io nt ops s k = some r) (hq : ∀ C' s' a', C.le C' → Frm C C' → C'.H = s'.heap → HeapR C' → TR C' nt s'.tmps a' → k s' = some r → Q .normal a' C'.w) : (Code.region id ops true).wp P Q a C.w := by
  unfold goM at h
  split at h
  rename_i hs fs hpl
  obtain ⟨hc, h⟩ := bool_cond h
  simp only [Bool.and_eq_true] at hc
  obtain ⟨hns, hlen⟩ := hc
  have hlen : hs.length + (ops.size - hs.length) = ops.size := by have := Nat.le_of_ble_eq_true hlen; omega
  refine wp_region_noPanic (wp_region_last (S := Below C.w.heap.size { C.w with drawn := C.w.drawn + 1 }) (ds := dsOf T io 0 ops.toList) hmix ?_)
  obtain ⟨k1, k2, k3⟩ := hH.world (w' := { C.w with drawn := C.w.drawn + 1 }) ⟨rfl, rfl, rfl, Nat.le_refl _, fun _ _ => rfl⟩ rfl
  have hS : ∀ n, n = ops.size → wpAnyLast P .any ops (NoPanic Q) (Below C.w.heap.size { C.w with drawn := C.w.drawn + 1 }) (dsOf T io 0 ops.toList) n (Array.replicate ops.size false) a { C.w with drawn := C.w.drawn + 1 } := by
    intro n hn
    rw [← hlen] at hn
    subst hn
    exact goH_r (C := { C with w := { C.w with drawn := C.w.drawn + 1 } }) (Q := NoPanic Q) hT (fun _ _ _ h => h) k2 hns hs (ops.size - hs.length) _ hh (ht.mono k1) h fun L' s' a' h1 h2 h3 =>
      goF_r hT hcf hcq hns (fun _ _ _ h => h) (fun w w' (h4 : Below _ _ w) h5 => h4.trans (h5.mono h4.size)) _ L' h1 k2 h2 h3 fun C' s' a' h6 h7 h8 h9 h10 h11 => NoPanic.normal (hq C' s' a' (k1.trans h6) (k3.trans k1 h7) h8 h9 h10 h11)
  have this := hS _ rfl
  exact this
end
end Go.Proofs.YtcjfheidmlcbfaaGreatDoor.V
