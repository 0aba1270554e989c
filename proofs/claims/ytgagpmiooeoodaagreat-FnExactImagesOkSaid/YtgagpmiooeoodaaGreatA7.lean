/- Calls, and statements whole, are sound. -/
import Derived.Test.YtgagpmiooeoodaaGreatA6
set_option linter.unusedVariables false
set_option linter.unusedSimpArgs false
set_option linter.unusedSectionVars false
namespace Go.Proofs.YtgagpmiooeoodaaGreat.A
open Go.RowKit

def argCx (w : World) : Cx := ⟨w.heap.size, fun _ => False, w, fun b => b < w.heap.size, [], fun _ => undef⟩

def AL (C : Cx) : List AV → List Value → Prop
  | [], [] => True
  | a :: l, v :: vs => AVR C a v ∧ AL C l vs
  | _, _ => False

theorem AL.append {C : Cx} : ∀ {l : List AV} {vs : List Value} {l' : List AV} {vs' : List Value}, AL C l vs → AL C l' vs' → AL C (l ++ l') (vs ++ vs')
  | [], [], _, _, _, h => h
  | _ :: _, _ :: _, _, _, h, h' => ⟨h.1, AL.append h.2 h'⟩
  | [], _ :: _, _, _, h, _ => h.elim
  | _ :: _, [], _, _, h, _ => h.elim

/-- What comes back: a value, and what blocks of the callee's own make it leads to. -/
def ResR (B : Nat) (w' : World) (v : AV) (H : List Blk) (u : Value) : Prop :=
  ∃ C : Cx, C.B = B ∧ C.w = w' ∧ C.H = H ∧ (∀ b, ¬ C.X b) ∧ (∀ b, C.S b → B ≤ b) ∧ HeapR C ∧ AVR C v u

/-- **The contract of a function**: called with these arguments it comes back with this. -/
def CallsOK (P : Program) (f : FuncId) (args : List AV) (v : AV) (H : List Blk) : Prop :=
  (∀ (vs : Array Value) (w : World), (callFunc f vs).run P w = .ok (.enter f vs) w) ∧
  ∀ (w : World) (vs : Array Value), AL (argCx w) args vs.toList → Calls P f vs w fun e w' => ∃ u, e = .returned u ∧ Below w.heap.size w w' ∧ ResR w.heap.size w' v H u

def CFok (P : Program) {R : Type} (cf : CF R) : Prop := ∀ f args k r, cf f args k = some r → ∃ v H, k v H = some r ∧ CallsOK P f args v H

section
variable {P : Program} {R : Type} {C : Cx} {r : R}

theorem Sf_arg (hH : HeapR C) (f : Bool) : ∀ b, C.Sf f b → (argCx C.w).Sf false b := fun b hb => ⟨hH.st b hb.1, fun e => by cases e⟩

theorem argC0_r (hH : HeapR C) {c : Cell} {v : Value} (h : CellR C c v) : CellR (argCx C.w) (argC0 C.H c) v := by
  cases c <;> simp only [argC0] <;> try exact h
  case own b =>
    split
    · rename_i t ety l f hb
      have hv := h.2.2 t l.length (by simp [shp, hb])
      obtain ⟨xs, hown, _, hrd⟩ := hH.blk b _ hb
      rw [hv]
      refine Rd_own hown (fun g hg => ⟨hH.lt (by simp [shp, hb]) hg, fun e => by cases e⟩) fun i x hx => Rd.mono (Sf_arg hH f) (fun _ _ => rfl) _ _ _ (hrd i x hx)
    · trivial
  case sl f t l => exact Rd.mono (Sf_arg hH f) (fun _ _ => rfl) (.sl t) _ _ h
  case ptr b o => trivial
  case eptr b i o => trivial
  case sptr f t x o => exact SPtr.mono (Sf_arg hH f) (fun _ _ => rfl) h
  case fn f caps => obtain ⟨vs, hv, hc⟩ := h; exact ⟨vs, hv, CapsR.mono (fun b hb => hH.st b hb) (fun _ _ => rfl) _ _ hc⟩
  case fnp f l => trivial

theorem argL0_r (hH : HeapR C) : ∀ {l : List Cell} {vs : List Value}, LR C l vs → LR (argCx C.w) (l.map (argC0 C.H)) vs
  | [], [], _ => trivial
  | _ :: _, _ :: _, h => ⟨argC0_r hH h.1, argL0_r hH h.2⟩
  | [], _ :: _, h => h.elim
  | _ :: _, [], h => h.elim

theorem capsG_r {T : Nat → Option TI} (hH : HeapR C) : ∀ (l : List Nat) (cs : List ((t : Ty) × t.den)) (vs : List Value), capsG T C.H l = some cs → PtrsR C.H.length C.H C.ρ l vs → CapsR C.w (argCx C.w).S cs vs
  | [], cs, vs, h, hp => by
    cases h
    cases vs with
    | nil => trivial
    | cons v vs => exact hp.elim
  | b :: r, cs, vs, h, hp => by
    simp only [capsG] at h
    split at h
    case h_2 => cases h
    rename_i ty l hb
    split at h
    case h_2 => cases h
    rename_i ti hti
    split at h
    case h_2 => cases h
    rename_i y hy
    split at h
    case h_2 => cases h
    rename_i x hx
    split at h
    case h_2 => cases h
    rename_i cs' hcs
    cases h
    cases vs with
    | nil => exact hp.elim
    | cons v vs =>
      obtain ⟨⟨h1, h2⟩, h3⟩ := hp
      have hv := h2 (by simp [shp, hb])
      obtain ⟨g, cs, hρ, hg, hl⟩ := hH.blk b _ hb
      have hr := dec_r (C := argCx C.w) (f := false) y _ x _ (argL0_r hH hl) hx (fun e => by cases e)
      refine ⟨⟨g, 0, cs, ty, (0, 0), (Array.getElem?_eq_some_iff.1 hg).1, hg, ?_, by rw [hv, hρ]⟩, capsG_r hH r cs' vs hcs h3⟩
      have hln := hr.length
      rw [List.drop_zero, List.take_of_length_le (Nat.le_of_eq hln)]
      exact Rd.mono (fun b hb => hb.1) (fun _ _ => rfl) _ _ _ hr

theorem argC_r {T : Nat → Option TI} (hH : HeapR C) {c : Cell} {v : Value} (h : CellR C c v) : CellR (argCx C.w) (argC T C.H c) v := by
  unfold argC
  split
  · rename_i f l
    obtain ⟨vs, rfl, hp⟩ := h
    split
    · rename_i cs hcs
      exact ⟨vs, rfl, capsG_r hH l cs _ hcs hp⟩
    · trivial
  · exact argC0_r hH h

theorem argL_r {T : Nat → Option TI} (hH : HeapR C) : ∀ {l : List Cell} {vs : List Value}, LR C l vs → LR (argCx C.w) (l.map (argC T C.H)) vs
  | [], [], _ => trivial
  | _ :: _, _ :: _, h => ⟨argC_r hH h.1, argL_r hH h.2⟩
  | [], _ :: _, h => h.elim
  | _ :: _, [], h => h.elim

theorem argTL_r {T : Nat → Option TI} (hH : HeapR C) : ∀ {l : List (Bool × List Cell)} {vs : List Value}, TL C l vs → TL (argCx C.w) (l.map fun p => (p.1, p.2.map (argC T C.H))) vs
  | [], [], _ => trivial
  | (b, l) :: _, u :: _, h => by
    refine ⟨?_, argTL_r hH h.2⟩
    cases b
    · exact argL_r hH (vs := [u]) h.1
    · obtain ⟨vs, hv, hl⟩ := h.1; exact ⟨vs, hv, argL_r hH hl⟩
  | [], _ :: _, h => h.elim
  | _ :: _, [], h => h.elim

theorem argA_r {T : Nat → Option TI} (hH : HeapR C) {v : AV} {u : Value} (h : AVR C v u) : AVR (argCx C.w) (argA T C.H v) u := by
  cases v with
  | c x => exact argC_r hH h
  | agg l => obtain ⟨vs, hv, hl⟩ := h; exact ⟨vs, hv, argL_r hH hl⟩
  | tup l => obtain ⟨vs, hv, hl⟩ := h; exact ⟨vs, hv, argTL_r hH hl⟩

theorem capA_r {w : World} {S : Nat → Prop} (hS : ∀ b, S b → b < w.heap.size) : ∀ (l : List ((t : Ty) × t.den)) (vs : List Value), CapsR w S l vs → AL (argCx w) (capA l) vs
  | [], [], _ => trivial
  | ⟨t, x⟩ :: r, v :: vs, h => ⟨SPtr.mono (fun b hb => ⟨hS b hb, fun e => by cases e⟩) (fun _ _ => rfl) h.1, capA_r hS r vs h.2⟩
  | [], _ :: _, h => h.elim
  | _ :: _, [], h => h.elim

/-- What the callee hands back, among what was there. -/
def Cx.merge (C Cr : Cx) : Cx :=
  { C with w := Cr.w, S := fun b => C.S b ∨ Cr.S b, H := C.H ++ Cr.H.map (shiftB C.H.length), ρ := fun b => if b < C.H.length then C.ρ b else Cr.ρ (b - C.H.length) }

theorem merge_shp (C Cr : Cx) (b : Nat) : shp (C.merge Cr).H b = if b < C.H.length then shp C.H b else shp Cr.H (b - C.H.length) := by
  by_cases hb : b < C.H.length
  · rw [if_pos hb]
    unfold shp Cx.merge
    rw [List.getElem?_append_left hb]
  · rw [if_neg hb]
    unfold shp Cx.merge
    rw [List.getElem?_append_right (by omega), List.getElem?_map]
    cases Cr.H[b - C.H.length]? with
    | none => rfl
    | some x => cases x <;> rfl

section
variable {Cr : Cx} (hS : ∀ b, Cr.S b → C.B ≤ b)
include hS
theorem merge_Sf (f : Bool) : ∀ b, Cr.Sf f b → (C.merge Cr).Sf f b := fun b hb => ⟨.inr hb.1, fun _ => hS b hb.1⟩
theorem shiftC_r {c : Cell} {u : Value} (h : CellR Cr c u) : CellR (C.merge Cr) (shiftC C.H.length c) u := by
  have hsf := fun f => merge_Sf (C := C) hS f
  have hsh : ∀ b, shp (C.merge Cr).H (b + C.H.length) = shp Cr.H b := fun b => by rw [merge_shp, if_neg (by omega), Nat.add_sub_cancel]
  have hρ : ∀ b, (C.merge Cr).ρ (b + C.H.length) = Cr.ρ b := fun b => by
    have : ¬ b + C.H.length < C.H.length := by omega
    simp [Cx.merge, this]
  have hlen : (C.merge Cr).H.length = C.H.length + Cr.H.length := by simp [Cx.merge]
  cases c <;> simp only [shiftC] <;> try exact h
  case sl f t l => exact Rd.mono (hsf f) (fun _ _ => rfl) (.sl t) _ _ h
  case own b => exact ⟨h.1, by rw [hlen]; have := h.2.1; omega, fun t n hs => by rw [hρ]; exact h.2.2 t n (by rw [← hsh]; exact hs)⟩
  case ptr b o => exact ⟨h.1, by rw [hlen]; have := h.2.1; omega, fun hs => by rw [hρ]; exact h.2.2 (by rw [← hsh]; exact hs)⟩
  case eptr b i o => exact ⟨h.1, by rw [hlen]; have := h.2.1; omega, fun t n hs => by rw [hρ]; exact h.2.2 t n (by rw [← hsh]; exact hs)⟩
  case sptr f t x o => exact SPtr.mono (hsf f) (fun _ _ => rfl) h
  case fn f caps => obtain ⟨vs, hv, hc⟩ := h; exact ⟨vs, hv, CapsR.mono (fun b hb => .inr hb) (fun _ _ => rfl) _ _ hc⟩
  case fnp f l =>
    obtain ⟨vs, hv, hp⟩ := h
    refine ⟨vs, hv, ?_⟩
    clear hv
    generalize vs.toList = us at hp ⊢
    induction l generalizing us with
    | nil => cases us <;> exact hp
    | cons b l ih =>
      cases us with
      | nil => exact hp.elim
      | cons u us => exact ⟨⟨by rw [hlen]; have := hp.1.1; show b + C.H.length < _; omega, fun hs => by rw [hρ]; exact hp.1.2 (by rw [← hsh]; exact hs)⟩, ih us hp.2⟩
theorem shiftL_r : ∀ {l : List Cell} {vs : List Value}, LR Cr l vs → LR (C.merge Cr) (l.map (shiftC C.H.length)) vs
  | [], [], _ => trivial
  | _ :: _, _ :: _, h => ⟨shiftC_r hS h.1, shiftL_r h.2⟩
  | [], _ :: _, h => h.elim
  | _ :: _, [], h => h.elim
theorem shiftTL_r : ∀ {l : List (Bool × List Cell)} {vs : List Value}, TL Cr l vs → TL (C.merge Cr) (l.map fun p => (p.1, p.2.map (shiftC C.H.length))) vs
  | [], [], _ => trivial
  | (b, l) :: _, u :: _, h => by
    refine ⟨?_, shiftTL_r h.2⟩
    cases b
    · exact shiftL_r hS (vs := [u]) h.1
    · obtain ⟨vs, hv, hl⟩ := h.1; exact ⟨vs, hv, shiftL_r hS hl⟩
  | [], _ :: _, h => h.elim
  | _ :: _, [], h => h.elim
theorem shiftA_r {v : AV} {u : Value} (h : AVR Cr v u) : AVR (C.merge Cr) (shiftA C.H.length v) u := by
  cases v with
  | c x => exact shiftC_r hS h
  | agg l => obtain ⟨vs, hv, hl⟩ := h; exact ⟨vs, hv, shiftL_r hS hl⟩
  | tup l => obtain ⟨vs, hv, hl⟩ := h; exact ⟨vs, hv, shiftTL_r hS hl⟩
end

theorem HeapR.merge (hH : HeapR C) {Cr : Cx} (hR : HeapR Cr) (hB : Cr.B = C.w.heap.size) (hX : ∀ b, ¬ Cr.X b) (hS : ∀ b, Cr.S b → Cr.B ≤ b) (hbel : Below C.w.heap.size C.w Cr.w) : C.le (C.merge Cr) ∧ HeapR (C.merge Cr) ∧ Frm C (C.merge Cr) := by
  have hSB : ∀ b, Cr.S b → C.B ≤ b := fun b hb => Nat.le_trans hH.base (by rw [← hB]; exact hS b hb)
  have hle : C.le (C.merge Cr) := by
    refine ⟨rfl, fun b hb => .inl hb, fun b hb => hbel.block b (hH.st b hb), by simp [Cx.merge], fun b hb => .inr ⟨by rw [merge_shp, if_pos hb], by simp [Cx.merge, hb]⟩⟩
  have hsh : ∀ b, shp (C.merge Cr).H (b + C.H.length) = shp Cr.H b := fun b => by rw [merge_shp, if_neg (by omega), Nat.add_sub_cancel]
  have hlive : ∀ i, shp (C.merge Cr).H i ≠ none → (i < C.H.length ∧ shp C.H i ≠ none ∧ (C.merge Cr).ρ i = C.ρ i) ∨ (∃ j, i = j + C.H.length ∧ shp Cr.H j ≠ none ∧ (C.merge Cr).ρ i = Cr.ρ j) := by
    intro i hs
    rw [merge_shp] at hs
    split at hs
    · rename_i h; exact .inl ⟨h, hs, by simp [Cx.merge, h]⟩
    · rename_i h; exact .inr ⟨i - C.H.length, by omega, hs, by simp [Cx.merge, h]⟩
  refine ⟨hle, ⟨Nat.le_trans hH.base hbel.size, ?_, ?_, ?_, ?_⟩, ⟨rfl, hbel.os, hbel.tape, hbel.output, hbel.size, fun b hb _ => hbel.block b (Nat.lt_of_lt_of_le hb hH.base)⟩⟩
  · intro b hb
    rcases hb with h | h
    · exact Nat.lt_of_lt_of_le (hH.st b h) hbel.size
    · exact hR.st b h
  · intro b x hx
    simp only [Cx.merge, List.getElem?_append] at hx
    split at hx
    · rename_i hlt
      by_cases hd : x = .dead
      · subst hd; trivial
      have hs : shp C.H b ≠ none := by unfold shp; rw [hx]; cases x <;> simp_all
      exact (hH.blk b x hx).keep hle (by simp [Cx.merge, hlt]) fun g hg => hbel.block g (hH.lt hs hg)
    · rename_i hge
      rw [List.getElem?_map] at hx
      cases hy : Cr.H[b - C.H.length]? with
      | none => simp [hy] at hx
      | some y =>
        rw [hy] at hx
        simp only [Option.map_some, Option.some.injEq] at hx
        have hb := hR.blk _ y hy
        have hρ : (C.merge Cr).ρ b = Cr.ρ (b - C.H.length) := by simp [Cx.merge, hge]
        subst hx
        cases y with
        | dead => trivial
        | cells ty l =>
          obtain ⟨g, cs, h1, h2, h3⟩ := hb
          exact ⟨g, cs, hρ.trans h1, h2, shiftL_r hSB h3⟩
        | arr t ety l f =>
          obtain ⟨xs, h1, h2, h3⟩ := hb
          refine ⟨xs, by rw [hρ]; exact h1, fun e g hg => ?_, fun i u hu => Rd.mono (merge_Sf hSB f) (fun _ _ => rfl) _ _ _ (h3 i u hu)⟩
          rw [hρ] at hg
          have := (hR.own _ g (by simp [shp, hy]) hg).2.resolve_right (hX g)
          show C.B ≤ g
          have := hH.base
          omega
  · intro b g hs hg
    rcases hlive b hs with ⟨h1, h2, h3⟩ | ⟨j, h1, h2, h3⟩
    · rw [h3] at hg
      obtain ⟨h4, h5⟩ := hH.own b g h2 hg
      have hlt := hH.lt h2 hg
      refine ⟨fun h => ?_, h5⟩
      rcases h with h | h
      · exact h4 h
      · have := hS g h; omega
    · rw [h3] at hg
      obtain ⟨h4, h5⟩ := hR.own j g h2 hg
      have h6 := h5.resolve_right (hX g)
      refine ⟨fun h => ?_, .inl (by show C.B ≤ g; have := hH.base; omega)⟩
      rcases h with h | h
      · have := hH.st g h; omega
      · exact h4 h
  · intro b b' g hs hs' hg hg'
    rcases hlive b hs with ⟨h1, h2, h3⟩ | ⟨j, h1, h2, h3⟩ <;> rcases hlive b' hs' with ⟨k1, k2, k3⟩ | ⟨j', k1, k2, k3⟩
    · rw [h3] at hg; rw [k3] at hg'; exact hH.inj b b' g h2 k2 hg hg'
    · rw [h3] at hg; rw [k3] at hg'
      have := hH.lt h2 hg
      have := (hR.own j' g k2 hg').2.resolve_right (hX g)
      omega
    · rw [h3] at hg; rw [k3] at hg'
      have := hH.lt k2 hg'
      have := (hR.own j g h2 hg).2.resolve_right (hX g)
      omega
    · rw [h3] at hg; rw [k3] at hg'
      have := hR.inj j j' g h2 k2 hg hg'
      omega

section
variable {T : Nat → Option TI} {cf : CF R} (hT : TOK P T) (hcf : CFok P cf) {s : St} {nt : Nat} {a : Act} (hH : HeapR C) (hh : C.H = s.heap) (ht : TR C nt s.tmps a)
include hT hcf hH hh ht

theorem args_r (args : List Operand) : AL (argCx C.w) (args.map fun x => argA T s.heap (s.ev x)) (args.map a.eval) := by
  induction args with
  | nil => trivial
  | cons x l ih => exact ⟨by rw [← hh]; exact argA_r hH (ev_r ht x), ih⟩

end

section
variable {T : Nat → Option TI} {cf : CF R} (hT : TOK P T) (hcf : CFok P cf) {s : St} {nt : Nat} {a : Act}
include hT hcf
/-- A call enters the function with arguments that stand for the walk's. -/
theorem enter_r {f : Operand} {args : Array Operand} {k : AV → List Blk → Option R} (h : callK T cf s f args.toList k = some r) {dst : Option Tmp} {ats : Array TypeId} {type : TypeId} {pos : String} {after : Array Edge} {guard : Option (Nat × Bool)} :
    ∃ v H, k (shiftA s.heap.length v) (s.heap ++ H.map (shiftB s.heap.length)) = some r ∧ ∀ C : Cx, HeapR C → C.H = s.heap → TR C nt s.tmps a →
      ∃ fn vs, (execOp a.eval ⟨dst, .call ⟨.value f, args, ats⟩, type, pos, after, guard⟩).run P C.w = .ok (.enter fn vs) C.w ∧
      Calls P fn vs C.w fun e w' => ∃ u, e = .returned u ∧ Below C.w.heap.size C.w w' ∧ ResR C.w.heap.size w' v H u := by
  unfold callK at h
  split at h
  case h_2 => cases h
  rename_i fn caps hf
  obtain ⟨v, H, hk, hen, hcall⟩ := hcf _ _ _ _ h
  refine ⟨v, H, hk, fun C hH hh ht => ?_⟩
  have hfv := ev_r ht f
  rw [hf] at hfv
  obtain ⟨cvs, hfe, hcr⟩ := hfv
  refine ⟨fn, args.map a.eval ++ cvs, ?_, hcall C.w _ ?_⟩
  · simp [execOp, resolve, hfe, Deferred.ofValue, invoke, hen]
  · have h1 := args_r hT hcf hH hh ht args.toList
    have h2 := capA_r hH.st caps _ hcr
    have := h1.append h2
    simpa using this
end

section
variable {T : Nat → Option TI} {cf : CF R} (hT : TOK P T) (hcf : CFok P cf) {s : St} {nt : Nat} {a : Act} (hH : HeapR C) (hh : C.H = s.heap) (ht : TR C nt s.tmps a)
include hT hcf hH hh ht

theorem call_r {f : Operand} {args : Array Operand} {k : AV → List Blk → Option R} (h : callK T cf s f args.toList k = some r) {dst : Option Tmp} {ats : Array TypeId} {type : TypeId} {pos : String} {after : Array Edge} {guard : Option (Nat × Bool)} :
    GoodO P C r k a ⟨dst, .call ⟨.value f, args, ats⟩, type, pos, after, guard⟩ := by
  obtain ⟨v, H, hk, hall⟩ := enter_r (nt := nt) (a := a) hT hcf h (dst := dst) (ats := ats) (type := type) (pos := pos) (after := after) (guard := guard)
  obtain ⟨fn, vs, hrun, hcall⟩ := hall C hH hh ht
  intro next Q hn
  unfold Oper.wp
  rw [hrun, Oper.upon_enter]
  refine hcall.mono fun e w' he => ?_
  obtain ⟨u, rfl, hbel, Cr, hB, hw, hHr, hX, hS, hR, hav⟩ := he
  subst hw
  obtain ⟨h1, h2, h3⟩ := hH.merge hR hB hX (fun b hb => by rw [hB]; exact hS b hb) hbel
  refine hn u (shiftA C.H.length v) (C.merge Cr) ?_ h1 h2 h3 (shiftA_r (fun b hb => Nat.le_trans hH.base (hS b hb)) hav)
  simpa [Cx.merge, hHr, hh] using hk

/-- **Any operation.** -/
theorem opK_r {o : Oper} {k : AV → List Blk → Option R} (h : opK T cf s o.op k = some r) : GoodO P C r k a o := by
  obtain ⟨dst, op, type, pos, after, guard⟩ := o
  simp only at h
  unfold opK at h
  split at h
  · split at h
    case h_2 => cases h
    rename_i ti hti
    exact alloc_r hT hH hh hti h
  · split at h
    case h_2 => cases h
    rename_i ti hti
    obtain ⟨_, h⟩ := beq_cond h
    obtain ⟨hk, h⟩ := bool_cond h
    exact box_r hT hH hh ht hti hk h
  · exact store_r hT hH hh ht h
  · exact make_r hT hH hh ht h
  · exact buildSlice_r hT hH hh ht h
  · rename_i c
    obtain ⟨callee, args, ats⟩ := c
    simp only at h
    split at h
    · exact call_r hT hcf hH hh ht h
    · split at h
      case h_2 => cases h
      rename_i t t2 d x e1 e2
      obtain rfl : ats = #[t, t2] := by apply Array.ext'; simpa using e1
      obtain rfl : args = #[d, x] := by apply Array.ext'; simpa using e2
      exact append_r hT hH hh ht h
    · rw [← hh] at h
      exact .pure_ hH (opP_r hT hH hh ht h)
  · rw [← hh] at h
    exact .pure_ hH (opP_r hT hH hh ht h)
end
end
end Go.Proofs.YtgagpmiooeoodaaGreat.A
