/- Calls, and operations whatever, are sound. -/
import Derived.Test.YtcjfheidmlcbfaaGreatDoorSV6b
set_option linter.unusedVariables false
set_option linter.unusedSimpArgs false
set_option linter.unusedSectionVars false
namespace Go.Proofs.YtcjfheidmlcbfaaGreatDoor.V
open Go.RowKit

def AL (C : Cx) : List AV → List Value → Prop
  | [], [] => True
  | a :: l, v :: vs => AVR C a v ∧ AL C l vs
  | _, _ => False

theorem AL.append {C : Cx} : ∀ {l : List AV} {vs : List Value} {l' : List AV} {vs' : List Value}, AL C l vs → AL C l' vs' → AL C (l ++ l') (vs ++ vs')
  | [], [], _, _, _, h => h
  | _ :: _, _ :: _, _, _, h, h' => ⟨h.1, AL.append h.2 h'⟩
  | [], _ :: _, _, _, h, _ => h.elim
  | _ :: _, [], _, _, h, _ => h.elim
theorem AL.length {C : Cx} : ∀ {l : List AV} {vs : List Value}, AL C l vs → vs.length = l.length
  | [], [], _ => rfl
  | _ :: _, _ :: _, h => by simp [AL.length h.2]
  | [], _ :: _, h => h.elim
  | _ :: _, [], h => h.elim
theorem AL.mono {C C' : Cx} (hle : C.le C') : ∀ {l : List AV} {vs : List Value}, AL C l vs → AL C' l vs
  | [], [], _ => trivial
  | _ :: _, _ :: _, h => ⟨AVR.mono hle h.1, AL.mono hle h.2⟩
  | [], _ :: _, h => h.elim
  | _ :: _, [], h => h.elim

/-- What holds of memory behind a call, of what held ahead of it. -/
structure Con (sh : Bool) (C0 C1 : Cx) : Prop where
  B : C1.B = C0.B
  X : C1.X = C0.X
  chg : ChgB C0.B C0.w C1.w (fun g p => C0.Own g p)
  S : ∀ g p, C1.S g p → (sh = true ∧ C0.S g p) ∨ C0.Own g p
  len : C0.H.length ≤ C1.H.length
  blk : ∀ b, b < C0.H.length → C1.sh b = C0.sh b ∧ C1.ρ b = C0.ρ b

/-- **The contract of a function**: called with these arguments, and with these blocks handed over, it comes back with this. -/
def CallsOK (P : Program) (f : FuncId) (args : List AV) (H0 : List Blk) (sh : Bool) (v : AV) (H1 : List Blk) : Prop :=
  (∀ (vs : Array Value) (w : World), (callFunc f vs).run P w = .ok (.enter f vs) w) ∧
  ∀ (C0 : Cx) (us : Array Value), HeapR C0 → C0.B = C0.w.heap.size → C0.H = H0 → AL C0 args us.toList → Calls P f us C0.w fun e w' => ∃ u C1, e = .returned u ∧ C1.w = w' ∧ C1.H = H1 ∧ Con sh C0 C1 ∧ HeapR C1 ∧ AVR C1 v u

def CFok (P : Program) {R : Type} (cf : CF R) : Prop := ∀ f H args k r, cf f H args k = some r → (∀ (vs : Array Value) (w : World), (callFunc f vs).run P w = .ok (.enter f vs) w) ∧ ∃ v H', k v H' = some r ∧
  ∀ (C : Cx) (us : Array Value), HeapR C → C.H = H → AL C args us.toList → Calls P f us C.w fun e w' => ∃ u C', e = .returned u ∧ C'.w = w' ∧ C'.H = H' ∧ C.le C' ∧ HeapR C' ∧ Frm C C' ∧ AVR C' v u
/-- As CFok, the memory that was there untouched. -/
def CFq (P : Program) {R : Type} (cf : CF R) : Prop := ∀ f H args k r, cf f H args k = some r → (∀ (vs : Array Value) (w : World), (callFunc f vs).run P w = .ok (.enter f vs) w) ∧ ∃ v H', k v H' = some r ∧
  ∀ (C : Cx) (us : Array Value), HeapR C → C.H = H → AL C args us.toList → Calls P f us C.w fun e w' => ∃ u C', e = .returned u ∧ C'.w = w' ∧ C'.H = H' ∧ C.le C' ∧ HeapR C' ∧ Frm C C' ∧ AVR C' v u ∧ Below C.w.heap.size C.w w'

theorem CFq.ok {P : Program} {R : Type} {cf : CF R} (h : CFq P cf) : CFok P cf := by
  intro f H args k r hr
  obtain ⟨h1, v, H', h2, h3⟩ := h f H args k r hr
  refine ⟨h1, v, H', h2, fun C us q1 q2 q3 => (h3 C us q1 q2 q3).mono fun e w' he => ?_⟩
  obtain ⟨u, C', a1, a2, a3, a4, a5, a6, a7, _⟩ := he
  exact ⟨u, C', a1, a2, a3, a4, a5, a6, a7⟩

section
variable {P : Program} {R : Type} {C : Cx} {r : R}

theorem capA_r : ∀ (l : List ((t : Ty) × t.den)) (vs : List Value), CapsR C.w C.S l vs → AL C (capA l) vs
  | [], [], _ => trivial
  | ⟨t, x⟩ :: r, v :: vs, h => ⟨SPtr.mono (fun g p hb => ⟨hb, fun e => by cases e⟩) (fun _ _ _ _ h => h) h.1, capA_r r vs h.2⟩
  | [], _ :: _, h => h.elim
  | _ :: _, [], h => h.elim

section
variable {T : Nat → Option TI} {cf : CF R} (hT : TOK P T) {s : St} {nt : Nat} {a : Act}

theorem args_r (ht : TR C nt s.tmps a) (args : List Operand) : AL C (args.map s.ev) (args.map a.eval) := by
  induction args with
  | nil => trivial
  | cons x l ih => exact ⟨ev_r ht x, ih⟩

/-- A call enters the function with arguments that stand for the walk's. -/
theorem enter_r (hcf : CFok P cf) {f : Operand} {args : Array Operand} {k : AV → List Blk → Option R} (h : callK cf s f args.toList k = some r) {dst : Option Tmp} {ats : Array TypeId} {type : TypeId} {pos : String} {after : Array Edge} {guard : Option (Nat × Bool)} :
    ∃ v H', k v H' = some r ∧ ∀ C : Cx, HeapR C → C.H = s.heap → TR C nt s.tmps a →
      ∃ fn vs, (execOp a.eval ⟨dst, .call ⟨.value f, args, ats⟩, type, pos, after, guard⟩).run P C.w = .ok (.enter fn vs) C.w ∧
      Calls P fn vs C.w fun e w' => ∃ u C', e = .returned u ∧ C'.w = w' ∧ C'.H = H' ∧ C.le C' ∧ HeapR C' ∧ Frm C C' ∧ AVR C' v u := by
  unfold callK at h
  split at h
  case h_2 => cases h
  rename_i fn caps hf
  obtain ⟨hen, v, H', hk, hcall⟩ := hcf _ _ _ _ _ h
  refine ⟨v, H', hk, fun C hH hh ht => ?_⟩
  have hfv := ev_r ht f
  rw [hf] at hfv
  obtain ⟨cvs, hfe, hcr⟩ := hfv
  refine ⟨fn, args.map a.eval ++ cvs, ?_, hcall C _ hH hh ?_⟩
  · simp [execOp, resolve, hfe, Deferred.ofValue, invoke, hen]
  · have h1 := args_r ht args.toList
    have h2 := capA_r caps _ hcr
    have := h1.append h2
    simpa using this
theorem enterq_r (hcf : CFq P cf) {f : Operand} {args : Array Operand} {k : AV → List Blk → Option R} (h : callK cf s f args.toList k = some r) {dst : Option Tmp} {ats : Array TypeId} {type : TypeId} {pos : String} {after : Array Edge} {guard : Option (Nat × Bool)} :
    ∃ v H', k v H' = some r ∧ ∀ C : Cx, HeapR C → C.H = s.heap → TR C nt s.tmps a →
      ∃ fn vs, (execOp a.eval ⟨dst, .call ⟨.value f, args, ats⟩, type, pos, after, guard⟩).run P C.w = .ok (.enter fn vs) C.w ∧
      Calls P fn vs C.w fun e w' => ∃ u C', e = .returned u ∧ C'.w = w' ∧ C'.H = H' ∧ C.le C' ∧ HeapR C' ∧ Frm C C' ∧ AVR C' v u ∧ Below C.w.heap.size C.w w' := by
  unfold callK at h
  split at h
  case h_2 => cases h
  rename_i fn caps hf
  obtain ⟨hen, v, H', hk, hcall⟩ := hcf _ _ _ _ _ h
  refine ⟨v, H', hk, fun C hH hh ht => ?_⟩
  have hfv := ev_r ht f
  rw [hf] at hfv
  obtain ⟨cvs, hfe, hcr⟩ := hfv
  refine ⟨fn, args.map a.eval ++ cvs, ?_, hcall C _ hH hh ?_⟩
  · simp [execOp, resolve, hfe, Deferred.ofValue, invoke, hen]
  · have h1 := args_r ht args.toList
    have h2 := capA_r caps _ hcr
    have := h1.append h2
    simpa using this

variable (hcf : CFok P cf) (hH : HeapR C) (hh : C.H = s.heap) (ht : TR C nt s.tmps a)
include hT hcf hH hh ht

theorem call_r {f : Operand} {args : Array Operand} {k : AV → List Blk → Option R} (h : callK cf s f args.toList k = some r) {dst : Option Tmp} {ats : Array TypeId} {type : TypeId} {pos : String} {after : Array Edge} {guard : Option (Nat × Bool)} :
    GoodO P C r k a ⟨dst, .call ⟨.value f, args, ats⟩, type, pos, after, guard⟩ := by
  obtain ⟨v, H', hk, hall⟩ := enter_r (nt := nt) (a := a) hcf h (dst := dst) (ats := ats) (type := type) (pos := pos) (after := after) (guard := guard)
  obtain ⟨fn, vs, hrun, hcall⟩ := hall C hH hh ht
  intro next Q hn
  unfold Oper.wp
  rw [hrun, Oper.upon_enter]
  refine hcall.mono fun e w' he => ?_
  obtain ⟨u, C', rfl, rfl, rfl, h1, h2, h3, h4⟩ := he
  exact hn u v C' hk h1 h2 h3 h4

/-- **Any operation.** -/
theorem opK_r {o : Oper} {k : AV → List Blk → Option R} (h : opK T cf s o.op k = some r) : GoodO P C r k a o := by
  obtain ⟨dst, op, type, pos, after, guard⟩ := o
  simp only at h
  unfold opK at h
  split at h
  · split at h
    case h_2 => cases h
    rename_i ti hti
    exact (alloc_b hT hH hh hti h).o
  · split at h
    case h_2 => cases h
    rename_i ti hti
    obtain ⟨_, h⟩ := beq_cond h
    obtain ⟨hk, h⟩ := bool_cond h
    exact (box_b hT hH hh ht hti hk h).o
  · exact storeA_r hT hH hh ht h
  · exact (make_b hT hH hh ht h).o
  · exact (buildSlice_b hT hH hh ht h).o
  · rename_i c
    obtain ⟨callee, args, ats⟩ := c
    simp only at h
    split at h
    · exact call_r hT hcf hH hh ht h
    · split at h
      case h_2 => cases h
      rename_i t t2 d x e1 e2
      obtain rfl : ats = #[t, t2] := by apply Array.ext'; simpa using e1
      obtain rfl : args = #[d, x] := by apply Array.ext'; simpa using e2
      exact append_r hT hH hh ht h
    · split at h
      case h_2 => cases h
      rename_i t t2 d x e1 e2
      obtain rfl : ats = #[t, t2] := by apply Array.ext'; simpa using e1
      obtain rfl : args = #[d, x] := by apply Array.ext'; simpa using e2
      exact copy_r hT hH hh ht h
    · rw [← hh] at h
      exact .pure_ hH (opP_r hT hH hh ht h)
  · rename_i t1 t2 x
    cases hc : isStob T t1 t2
    · rw [hc] at h
      simp only [cond_false] at h
      rw [← hh] at h
      exact .pure_ hH (opP_r hT hH hh ht h)
    · rw [hc] at h
      simp only [cond_true] at h
      exact stob_r hT hH hh ht h
  · exact (sliceO_b hT hH hh ht h).o
  · rw [← hh] at h
    exact .pure_ hH (opP_r hT hH hh ht h)
end
end
end Go.Proofs.YtcjfheidmlcbfaaGreatDoor.V
