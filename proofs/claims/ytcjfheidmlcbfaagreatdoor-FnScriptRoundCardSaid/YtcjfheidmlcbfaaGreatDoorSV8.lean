/- The walk is sound. -/
import Derived.Test.YtcjfheidmlcbfaaGreatDoorSV7
set_option linter.unusedVariables false
set_option linter.unusedSimpArgs false
set_option linter.unusedSectionVars false
namespace Go.Proofs.YtcjfheidmlcbfaaGreatDoor.V
open Go.RowKit

section
variable {P : Program} {R : Type} {C : Cx} {r : R}

theorem TR.look {nt : Nat} {tmps : List (Nat × AV)} {a : Act} (h : TR C nt tmps a) {t : Nat} {v : AV} (hv : AVR C v (a.tmps.getD t undef)) : TR C nt ((t, v) :: tmps) a := by
  refine ⟨h.size, h.defers, fun u => ?_⟩
  simp only [V.look]
  cases hb : Nat.beq t u
  · exact h.at_ u
  · have : t = u := Nat.eq_of_beq_eq_true hb
    subst this
    exact hv

theorem splitT_r {nt : Nat} {s : St} {a : Act} (h : TR C nt s.tmps a) {t : Nat} {k : Bool → St → Option R} (hk : splitT s t k = some r) :
    ∃ b s', a.tmps.getD t undef = .bool b ∧ TR C nt s'.tmps a ∧ s'.heap = s.heap ∧ k b s' = some r := by
  have hv := h.at_ t
  unfold splitT St.get at hk
  split at hk
  · rename_i b hb
    rw [hb] at hv
    cases b
    · exact ⟨false, s, hv, h, rfl, hk⟩
    · exact ⟨true, s, hv, h, rfl, hk⟩
  · rename_i c _ hb
    rw [hb] at hv
    obtain ⟨b, hb', hk⟩ := condC_r hv hk
    cases b
    · exact ⟨false, s.put (some t) (.c (.lit false)), hb', h.look (v := .c (.lit false)) hb', rfl, hk⟩
    · exact ⟨true, s.put (some t) (.c (.lit true)), hb', h.look (v := .c (.lit true)) hb', rfl, hk⟩
  · cases hk

theorem yielded_at {ops : Array Oper} {a : Act} {j t : Nat} (hj : (ops[j]?).bind (·.dst) = some t) : yielded ops a.tmps j = match a.tmps.getD t undef with | .bool b => some b | _ => none := by
  unfold yielded
  rw [hj]
  simp only [Option.bind_some]
  rw [Array.getD_eq_getD_getElem?]
  cases h : a.tmps[t]? with
  | none => rfl
  | some v => cases v <;> rfl

theorem guardK_r {nt : Nat} {ops : Array Oper} {o : Oper} {s : St} {a : Act} (h : TR C nt s.tmps a) {yes no : St → Option R} (hk : guardK ops.toList o s yes no = some r) :
    ∃ s', TR C nt s'.tmps a ∧ s'.heap = s.heap ∧ ((Region.wanted o (yielded ops a.tmps) = true ∧ yes s' = some r) ∨ (Region.wanted o (yielded ops a.tmps) = false ∧ no s' = some r)) := by
  unfold guardK at hk
  unfold Region.wanted
  split at hk
  · rename_i hg
    exact ⟨s, h, rfl, .inl ⟨by rw [hg], hk⟩⟩
  · rename_i j want hg
    rw [hg]
    simp only
    split at hk
    · cases hk
    rename_i t ht
    have hj : (ops[j]?).bind (·.dst) = some t := by simpa using ht
    rw [yielded_at hj]
    split at hk
    · rename_i hu
      have hv := h.at_ t
      unfold St.get at hu
      rw [hu] at hv
      have hv : a.tmps.getD t undef = undef := hv
      rw [hv]
      exact ⟨s, h, rfl, .inr ⟨rfl, hk⟩⟩
    · obtain ⟨b, s', hb, h1, h2, h3⟩ := splitT_r h hk
      rw [hb]
      refine ⟨s', h1, h2, ?_⟩
      cases b <;> cases want <;> first | exact .inl ⟨rfl, h3⟩ | exact .inr ⟨rfl, h3⟩

theorem dst_r {o : Oper} {nt : Nat} {x : Option R} (h : cond (match o.dst with | some d => Nat.blt d nt | none => true) x none = some r) : (∀ t, o.dst = some t → t < nt) ∧ x = some r := by
  obtain ⟨h1, h2⟩ := bool_cond h
  refine ⟨fun t ht => ?_, h2⟩
  rw [ht] at h1
  exact Nat.lt_of_lt_of_le (Nat.lt_succ_self t) (Nat.le_of_ble_eq_true h1)

section
variable {T : Nat → Option TI} {cf : CF R} (hT : TOK P T) (hcf : CFok P cf) {nt : Nat}
include hT hcf

theorem goOps_r {ops : Array Oper} {k : St → Option R} {Q : Exit → Act → World → Prop} : ∀ (l : List Oper) (n : Nat), (∀ j, l[j]? = ops[n + j]?) → ∀ {C : Cx} {s : St} {a : Act}, C.H = s.heap → HeapR C → TR C nt s.tmps a →
    goOps T cf nt ops.toList l s k = some r → (∀ C' s' a', C.le C' → Frm C C' → C'.H = s'.heap → HeapR C' → TR C' nt s'.tmps a' → k s' = some r → Q .normal a' C'.w) → wpOps P ops Q (List.range' n l.length) a C.w
  | [], n, hl, C, s, a, hh, hH, ht, h, hq => hq C s a (.refl C) (.refl C) hh hH ht h
  | o :: l, n, hl, C, s, a, hh, hH, ht, h, hq => by
    have ho : ops[n]? = some o := by simpa using (hl 0).symm
    have hl' : ∀ j, l[j]? = ops[n + 1 + j]? := fun j => by have := hl (j + 1); rw [List.getElem?_cons_succ] at this; rw [this]; congr 1; omega
    simp only [goOps] at h
    obtain ⟨s', ht', hs', hg⟩ := guardK_r ht h
    rw [List.length_cons, List.range'_succ]
    simp only [wpOps, ho]
    rcases hg with ⟨hw, h⟩ | ⟨hw, h⟩
    · rw [if_pos hw]
      left
      obtain ⟨hd, h⟩ := dst_r h
      have hgo := opK_r hT hcf hH (hh.trans hs'.symm) ht' h
      refine hgo _ _ fun v av C' hk h1 h2 h3 h4 => ?_
      have htp : TR C' nt (St.put ⟨s'.tmps, C'.H⟩ o.dst av).tmps (a.put o.dst v) := TR.put (s := ⟨s'.tmps, C'.H⟩) (ht'.mono h1) hd h4
      exact goOps_r l (n + 1) hl' (put_heap ⟨s'.tmps, C'.H⟩ o.dst av).symm h2 htp hk (fun C2 s2 a2 k1 k2 k3 k4 k5 k6 => hq C2 s2 a2 (h1.trans k1) (h3.trans h1 k2) k3 k4 k5 k6)
    · rw [if_neg (by rw [hw]; simp)]
      obtain ⟨hd, h⟩ := dst_r h
      have htp : TR C nt (s'.put o.dst (.c .un)).tmps (a.put o.dst undef) := ht'.put hd rfl
      exact goOps_r l (n + 1) hl' ((hh.trans hs'.symm).trans (put_heap _ _ _).symm) hH htp h hq

def valC : Cell → Value
  | .int k n => .int k n
  | .lit b => .bool b
  | .bool b => .bool b
  | .nbool b => .bool (!b)
  | .prop p d => .bool (@decide p d)
  | .nprop p d => .bool (!(@decide p d))
  | .str s => .string s
  | _ => undef
omit hT hcf in
theorem valC_r {C C' : Cx} {c : Cell} {u : Value} (hs : scalC c = true) (h : CellR C c u) : u = valC c ∧ CellR C' c u := by
  cases c <;> first | (cases hs; done) | exact ⟨h, h⟩
omit hT hcf in
theorem valL_r {C C' : Cx} : ∀ {l : List Cell} {vs : List Value}, l.all scalC = true → LR C l vs → vs = l.map valC ∧ LR C' l vs
  | [], [], _, _ => ⟨rfl, trivial⟩
  | c :: l, v :: vs, hs, h => by
    simp only [List.all_cons, Bool.and_eq_true] at hs
    obtain ⟨h1, h2⟩ := valC_r (C' := C') hs.1 h.1
    obtain ⟨h3, h4⟩ := valL_r (C' := C') hs.2 h.2
    exact ⟨by rw [List.map_cons, ← h1, ← h3], h2, h4⟩
  | [], _ :: _, _, h => h.elim
  | _ :: _, [], _, h => h.elim
def valS (p : Bool × List Cell) : Value := match p.1 with | true => .agg (p.2.map valC).toArray | false => (p.2.map valC).headD undef
def valA : AV → Value
  | .c x => valC x
  | .agg l => .agg (l.map valC).toArray
  | .tup l => .tuple (l.map valS).toArray
omit hT hcf in
theorem valTL_r {C C' : Cx} : ∀ {l : List (Bool × List Cell)} {vs : List Value}, (l.all fun p => p.2.all scalC) = true → TL C l vs → vs = l.map valS ∧ TL C' l vs
  | [], [], _, _ => ⟨rfl, trivial⟩
  | (b, c) :: l, v :: vs, hs, h => by
    simp only [List.all_cons, Bool.and_eq_true] at hs
    obtain ⟨h3, h4⟩ := valTL_r (C' := C') hs.2 h.2
    have h1 := h.1
    cases b
    · obtain ⟨h5, h6⟩ := valL_r (C' := C') (vs := [v]) hs.1 h1
      refine ⟨?_, h6, h4⟩
      rw [List.map_cons, ← h3]
      simp only [valS, ← h5, List.headD_cons]
    · obtain ⟨us, rfl, hl⟩ := h1
      obtain ⟨h5, h6⟩ := valL_r (C' := C') hs.1 hl
      refine ⟨?_, ⟨us, rfl, h6⟩, h4⟩
      rw [List.map_cons, ← h3]
      simp only [valS, ← h5]
  | [], _ :: _, _, h => h.elim
  | _ :: _, [], _, h => h.elim
omit hT hcf in
theorem valA_r {C C' : Cx} {v : AV} {u : Value} (hs : scalA v = true) (h : AVR C v u) : u = valA v ∧ AVR C' v u := by
  cases v with
  | c x => exact valC_r hs h
  | agg l =>
    obtain ⟨us, rfl, hl⟩ := h
    obtain ⟨h5, h6⟩ := valL_r (C' := C') hs hl
    exact ⟨by simp only [valA, ← h5], us, rfl, h6⟩
  | tup l =>
    obtain ⟨us, rfl, hl⟩ := h
    obtain ⟨h5, h6⟩ := valTL_r (C' := C') hs hl
    exact ⟨by simp only [valA, ← h5], us, rfl, h6⟩
omit hT hcf in
theorem HeapR.world {C : Cx} (hH : HeapR C) {w' : World} (hb : Below C.w.heap.size C.w w') {C' : Cx} (hC' : C' = { C with w := w' }) : C.le C' ∧ HeapR C' ∧ Frm C C' := by
  subst hC'
  refine hH.next (F := fun _ _ => False) (fun b => live C b) rfl rfl (.of_below hb _) (fun _ _ h => h.elim) (fun _ _ h => h) (fun _ _ h => .inl h) (fun g p h => Nat.lt_of_lt_of_le (hH.st g p h) hb.size) (Nat.le_refl _) (fun _ _ => ⟨rfl, rfl⟩) (fun b _ hk => .inl (hH.vnone hk)) (fun b v hk hv => ?_) (fun b hb => ⟨hb, rfl, rfl, fun _ _ => Iff.rfl⟩) (fun _ b x hx hd hn => absurd ⟨x, hx, hd⟩ hn) (fun b g p hl hn => absurd hl hn) (fun b1 b2 g p hl _ hn => absurd hl hn)
  have : C.vn b = some v := hv
  rw [hH.vnone hk] at this
  cases this

end
section
variable {T : Nat → Option TI} {cf : CF R} (hT : TOK P T) (hcf : CFq P cf) {nt : Nat}
include hT hcf
theorem opQ_r {s : St} {a : Act} (hH : HeapR C) (hh : C.H = s.heap) (ht : TR C nt s.tmps a) {o : Oper} {k : AV → Option R} (h : opQ T cf s o.op k = some r) :
    ∃ v av, k av = some r ∧ AVR C av v ∧ ∀ w', Below C.w.heap.size C.w w' → o.quietAt P a (Below C.w.heap.size C.w) w' v := by
  have plain : ∀ {o : Oper}, GoodN P C r k (execOp a.eval o) → ∃ v av, k av = some r ∧ AVR C av v ∧ ∀ w', Below C.w.heap.size C.w w' → o.quietAt P a (Below C.w.heap.size C.w) w' v := by
    intro o h
    obtain ⟨v, av, h1, h2, h3⟩ := h
    refine ⟨v, av, h1, h2, fun w' hw => ?_⟩
    unfold Oper.quietAt
    rw [h3 w' fun b hb => hw.block b hb]
    exact ⟨rfl, rfl⟩
  obtain ⟨dst, op, type, pos, after, guard⟩ := o
  simp only at h
  unfold opQ at h
  split at h
  · rename_i c
    obtain ⟨callee, args, ats⟩ := c
    simp only at h
    split at h
    · rename_i f
      obtain ⟨v, H', hk, hall⟩ := enterq_r (nt := nt) (a := a) hcf h (dst := dst) (ats := ats) (type := type) (pos := pos) (after := after) (guard := guard)
      obtain ⟨hsc, hk⟩ := bool_cond hk
      -- what it is, told by one world
      have hone : ∀ (w' : World), Below C.w.heap.size C.w w' → Oper.quietAt P ⟨dst, .call ⟨.value f, args, ats⟩, type, pos, after, guard⟩ a (Below C.w.heap.size C.w) w' (valA v) := by
        intro w' hw
        obtain ⟨h1, h2, h3⟩ := hH.world hw rfl
        obtain ⟨fn, vs, hrun, hcall⟩ := hall { C with w := w' } h2 hh (ht.mono h1)
        unfold Oper.quietAt
        rw [hrun]
        refine ⟨rfl, hcall.mono fun e w2 he => ?_⟩
        obtain ⟨u, C', rfl, rfl, _, _, _, _, hav, hbel⟩ := he
        have hu := (valA_r (C' := C') hsc hav).1
        exact ⟨by rw [hu], hw.trans (hbel.mono hw.size)⟩
      refine ⟨valA v, v, hk, ?_, hone⟩
      -- it stands for the value anywhere
      have key : ∀ (v : AV), scalA v = true → (∃ Cr u, AVR Cr v u) → AVR C v (valA v) := by
        intro v hs hex
        obtain ⟨Cr, u, hu⟩ := hex
        obtain ⟨h1, h2⟩ := valA_r (C' := C) hs hu
        rw [← h1]
        exact h2
      refine key v hsc ?_
      obtain ⟨fn, vs, hrun, hcall⟩ := hall C hH hh ht
      obtain ⟨e, w2, fr, ⟨u, C', _, _, _, _, _, _, hav, _⟩, _⟩ := hcall []
      exact ⟨C', u, hav⟩
    · exact plain (opP_r hT hH hh ht h)
  · exact plain (opP_r hT hH hh ht h)

theorem goOpsQ_r {ops : Array Oper} {k : St → Option R} {Qf : Act → Prop} (hH : HeapR C) : ∀ (l : List Oper) {s : St} {a : Act}, C.H = s.heap → TR C nt s.tmps a → goOpsQ T cf nt ops.toList l s k = some r →
    (∀ s' a', C.H = s'.heap → TR C nt s'.tmps a' → k s' = some r → Qf a') → wpQuiet P ops (Below C.w.heap.size C.w) Qf l a
  | [], s, a, hh, ht, h, hq => hq s a hh ht h
  | o :: l, s, a, hh, ht, h, hq => by
    simp only [goOpsQ] at h
    obtain ⟨s', ht', hs', hg⟩ := guardK_r ht h
    unfold wpQuiet
    rcases hg with ⟨hw, h⟩ | ⟨hw, h⟩
    · rw [if_pos hw]
      obtain ⟨hd, h⟩ := dst_r h
      obtain ⟨v, av, hk, hav, hall⟩ := opQ_r hT hcf hH (hh.trans hs'.symm) ht' h
      exact ⟨v, hall, goOpsQ_r hH l ((hh.trans hs'.symm).trans (put_heap _ _ _).symm) (ht'.put hd hav) hk hq⟩
    · rw [if_neg (by rw [hw]; simp)]
      obtain ⟨hd, h⟩ := dst_r h
      exact goOpsQ_r hH l ((hh.trans hs'.symm).trans (put_heap _ _ _).symm) (ht'.put hd (av := .c .un) (v := undef) rfl) h hq
end
end
end Go.Proofs.YtcjfheidmlcbfaaGreatDoor.V
