/- What the interpreter's values stand for in memory. -/
import Derived.Test.YtgagpmiooeoodaaGreatA1
import Derived.Below
import Derived.Deep.AppendSrc
import Derived.Laws.MakeOwn
set_option linter.unusedVariables false
set_option linter.unusedSimpArgs false
namespace Go.Proofs.YtgagpmiooeoodaaGreat.A
open Go.RowKit

/-- The cells 'vs' hold the datum x; whatever memory they lead to lies in blocks of which S holds. -/
def Rd (w : World) (S : Nat → Prop) : (t : Ty) → t.den → List Value → Prop
  | .int k, n, vs => vs = [.int k n]
  | .bool, b, vs => vs = [.bool b]
  | .str, s, vs => vs = [.string s]
  | .sl t, l, vs => ∃ A cap, vs = [.slice A l.length cap] ∧ l.length ≤ cap ∧ (l ≠ [] → ∃ g off cs ty fr, A = some ⟨g, off, none⟩ ∧ S g ∧ w.heap[g]? = some (.cells cs ty fr) ∧
      ∀ i x, l[i]? = some x → Rd w S t x ((cs.toList.drop (off + i * t.width)).take t.width))
  | .pair a b, x, vs => Rd w S a x.1 (vs.take a.width) ∧ Rd w S b x.2 (vs.drop a.width)

theorem Rd.mono {w w' : World} {S S' : Nat → Prop} (hS : ∀ b, S b → S' b) (hw : ∀ b, S b → w'.heap[b]? = w.heap[b]?) : ∀ (t : Ty) (x : t.den) (vs : List Value), Rd w S t x vs → Rd w' S' t x vs := by
  intro t
  induction t with
  | int k => intro x vs h; exact h
  | bool => intro x vs h; exact h
  | str => intro x vs h; exact h
  | sl t ih =>
    intro x vs h
    obtain ⟨A, cap, hv, hl, hi⟩ := h
    refine ⟨A, cap, hv, hl, fun hx => ?_⟩
    obtain ⟨g, off, cs, ty, fr, hA, hg, hc, hr⟩ := hi hx
    exact ⟨g, off, cs, ty, fr, hA, hS g hg, (hw g hg).trans hc, fun i y hy => ih _ _ (hr i y hy)⟩
  | pair a b iha ihb => intro x vs h; exact ⟨iha _ _ h.1, ihb _ _ h.2⟩

theorem Ty.width_pos (t : Ty) : 0 < t.width := by
  induction t with
  | pair a b iha ihb => simp only [Ty.width]; omega
  | _ => simp [Ty.width]

theorem Rd.length {w : World} {S : Nat → Prop} : ∀ (t : Ty) (x : t.den) (vs : List Value), Rd w S t x vs → vs.length = t.width := by
  intro t
  induction t with
  | int k => intro x vs h; obtain rfl : vs = _ := h; rfl
  | bool => intro x vs h; obtain rfl : vs = _ := h; rfl
  | str => intro x vs h; obtain rfl : vs = _ := h; rfl
  | sl t ih => intro x vs h; obtain ⟨A, cap, hv, _⟩ := h; subst hv; rfl
  | pair a b iha ihb =>
    intro x vs h
    have h1 := iha _ _ h.1
    have h2 := ihb _ _ h.2
    have hb := b.width_pos
    simp only [Ty.width, List.length_take, List.length_drop] at *
    omega

theorem Rd.one {w : World} {S : Nat → Prop} : ∀ (t : Ty) (x : t.den) (vs : List Value), Rd w S t x vs → ∀ v ∈ vs, v.oneCell' = true := by
  intro t
  induction t with
  | int k => intro x vs h v hv; obtain rfl : vs = _ := h; simp at hv; subst hv; rfl
  | bool => intro x vs h v hv; obtain rfl : vs = _ := h; simp at hv; subst hv; rfl
  | str => intro x vs h v hv; obtain rfl : vs = _ := h; simp at hv; subst hv; rfl
  | sl t ih => intro x vs h v hv; obtain ⟨A, cap, he, _⟩ := h; subst he; simp at hv; subst hv; rfl
  | pair a b iha ihb =>
    intro x vs h v hv
    rw [← List.take_append_drop a.width vs] at hv
    rcases List.mem_append.1 hv with h1 | h1
    · exact iha _ _ h.1 v h1
    · exact ihb _ _ h.2 v h1

theorem Rd.flat {w : World} {S S' : Nat → Prop} : ∀ (t : Ty) (x : t.den) (vs : List Value), t.flat = true → Rd w S t x vs → Rd w S' t x vs := by
  intro t
  induction t with
  | int k => intro x vs _ h; exact h
  | bool => intro x vs _ h; exact h
  | str => intro x vs _ h; exact h
  | sl t ih => intro x vs hf h; cases hf
  | pair a b iha ihb =>
    intro x vs hf h
    simp only [Ty.flat, Bool.and_eq_true] at hf
    exact ⟨iha _ _ hf.1 h.1, ihb _ _ hf.2 h.2⟩

structure Cx where
  B : Nat
  X : Nat → Prop
  w : World
  S : Nat → Prop
  H : List Blk
  ρ : Nat → Value

def Cx.Sf (C : Cx) (f : Bool) : Nat → Prop := fun b => C.S b ∧ (f = true → C.B ≤ b)

inductive Shp where
  | cells
  | arr (t : Ty) (n : Nat)

def shp (H : List Blk) (b : Nat) : Option Shp :=
  match H[b]? with
  | some (.cells _ _) => some .cells
  | some (.arr t _ l _) => some (.arr t l.length)
  | _ => none

def SPtr (w : World) (S : Nat → Prop) (t : Ty) (x : t.den) (o : Nat) (v : Value) : Prop :=
  ∃ g off cs ty fr, S g ∧ w.heap[g]? = some (.cells cs ty fr) ∧ Rd w S t x ((cs.toList.drop off).take t.width) ∧ v = .pointer (some ⟨g, off + o, none⟩)

def CapsR (w : World) (S : Nat → Prop) : List ((t : Ty) × t.den) → List Value → Prop
  | [], [] => True
  | ⟨t, x⟩ :: r, v :: vs => SPtr w S t x 0 v ∧ CapsR w S r vs
  | _, _ => False

def PtrsR (n : Nat) (H : List Blk) (ρ : Nat → Value) : List Nat → List Value → Prop
  | [], [] => True
  | b :: r, v :: vs => (b < n ∧ (shp H b = some .cells → v = ρ b)) ∧ PtrsR n H ρ r vs
  | _, _ => False

def CellR (C : Cx) : Cell → Value → Prop
  | .int k n, v => v = .int k n
  | .lit b, v => v = .bool b
  | .bool b, v => v = .bool b
  | .nbool b, v => v = .bool (!b)
  | .prop p d, v => v = .bool (@decide p d)
  | .nprop p d, v => v = .bool (!(@decide p d))
  | .str s, v => v = .string s
  | .nil, v => v = .slice none 0 0
  | .emp, v => ∃ A, v = .slice A 0 0
  | .sl f t l, v => Rd C.w (C.Sf f) (.sl t) l [v]
  | .own b, v => v.oneCell' = true ∧ b < C.H.length ∧ ∀ t n, shp C.H b = some (.arr t n) → v = C.ρ b
  | .ptr b o, v => v.oneCell' = true ∧ b < C.H.length ∧ (shp C.H b = some .cells → ∃ g, C.ρ b = .pointer (some ⟨g, 0, none⟩) ∧ v = .pointer (some ⟨g, o, none⟩))
  | .eptr b i o, v => v.oneCell' = true ∧ b < C.H.length ∧ ∀ t n, shp C.H b = some (.arr t n) → i < n ∧ ∃ g len cap, C.ρ b = .slice (some ⟨g, 0, none⟩) len cap ∧ v = .pointer (some ⟨g, i * t.width + o, none⟩)
  | .sptr f t x o, v => SPtr C.w (C.Sf f) t x o v
  | .fn f caps, v => ∃ vs, v = .func (.func f) #[] vs ∧ CapsR C.w C.S caps vs.toList
  | .fnp f bs, v => ∃ vs, v = .func (.func f) #[] vs ∧ PtrsR C.H.length C.H C.ρ bs vs.toList
  | .un, v => v = undef
  | .undef, _ => True

def LR (C : Cx) : List Cell → List Value → Prop
  | [], [] => True
  | c :: l, v :: vs => CellR C c v ∧ LR C l vs
  | _, _ => False

def SVR (C : Cx) (p : Bool × List Cell) (u : Value) : Prop :=
  match p.1 with
  | true => ∃ vs, u = .agg vs ∧ LR C p.2 vs.toList
  | false => LR C p.2 [u]

def TL (C : Cx) : List (Bool × List Cell) → List Value → Prop
  | [], [] => True
  | c :: l, v :: vs => SVR C c v ∧ TL C l vs
  | _, _ => False

def AVR (C : Cx) : AV → Value → Prop
  | .c x, v => CellR C x v
  | .agg l, v => ∃ vs, v = .agg vs ∧ LR C l vs.toList
  | .tup l, v => ∃ vs, v = .tuple vs ∧ TL C l vs.toList

structure Cx.le (C C' : Cx) : Prop where
  B : C'.B = C.B
  S : ∀ b, C.S b → C'.S b
  heap : ∀ b, C.S b → C'.w.heap[b]? = C.w.heap[b]?
  len : C.H.length ≤ C'.H.length
  shp : ∀ b, b < C.H.length → shp C'.H b = none ∨ (shp C'.H b = shp C.H b ∧ C'.ρ b = C.ρ b)

theorem Cx.le.refl (C : Cx) : C.le C := ⟨rfl, fun _ h => h, fun _ _ => rfl, Nat.le_refl _, fun _ _ => .inr ⟨rfl, rfl⟩⟩
theorem Cx.le.Sf {C C' : Cx} (h : C.le C') (f : Bool) : ∀ b, C.Sf f b → C'.Sf f b := fun b hb => ⟨h.S b hb.1, fun hf => by rw [h.B]; exact hb.2 hf⟩

theorem SPtr.mono {w w' : World} {S S' : Nat → Prop} (hS : ∀ b, S b → S' b) (hw : ∀ b, S b → w'.heap[b]? = w.heap[b]?) {t : Ty} {x : t.den} {o : Nat} {v : Value} (h : SPtr w S t x o v) : SPtr w' S' t x o v := by
  obtain ⟨g, off, cs, ty, fr, hg, hc, hr, hv⟩ := h
  exact ⟨g, off, cs, ty, fr, hS g hg, (hw g hg).trans hc, Rd.mono hS hw _ _ _ hr, hv⟩

theorem CapsR.mono {w w' : World} {S S' : Nat → Prop} (hS : ∀ b, S b → S' b) (hw : ∀ b, S b → w'.heap[b]? = w.heap[b]?) : ∀ (l : List ((t : Ty) × t.den)) (vs : List Value), CapsR w S l vs → CapsR w' S' l vs
  | [], [], _ => trivial
  | ⟨t, x⟩ :: r, v :: vs, h => ⟨h.1.mono hS hw, CapsR.mono hS hw r vs h.2⟩
  | [], _ :: _, h => h.elim
  | _ :: _, [], h => h.elim

theorem PtrsR.mono {C C' : Cx} (h : C.le C') : ∀ (l : List Nat) (vs : List Value), PtrsR C.H.length C.H C.ρ l vs → PtrsR C'.H.length C'.H C'.ρ l vs
  | [], [], _ => trivial
  | b :: r, v :: vs, hh => by
    obtain ⟨⟨h1, h2⟩, h3⟩ := hh
    refine ⟨⟨Nat.lt_of_lt_of_le h1 h.len, fun hs => ?_⟩, PtrsR.mono h r vs h3⟩
    rcases h.shp b h1 with h4 | ⟨h4, h5⟩
    · rw [h4] at hs; cases hs
    · rw [h5]; exact h2 (h4 ▸ hs)
  | [], _ :: _, h => h.elim
  | _ :: _, [], h => h.elim

theorem CellR.mono {C C' : Cx} (h : C.le C') {c : Cell} {v : Value} (hc : CellR C c v) : CellR C' c v := by
  have hSf : ∀ f b, C.Sf f b → C'.w.heap[b]? = C.w.heap[b]? := fun f b hb => h.heap b hb.1
  cases c <;> try exact hc
  case sl f t l => exact Rd.mono (h.Sf f) (hSf f) (.sl t) _ _ hc
  case own b =>
    refine ⟨hc.1, Nat.lt_of_lt_of_le hc.2.1 h.len, fun t n hs => ?_⟩
    rcases h.shp b hc.2.1 with h4 | ⟨h4, h5⟩
    · rw [h4] at hs; cases hs
    · rw [h5]; exact hc.2.2 t n (h4 ▸ hs)
  case ptr b o =>
    refine ⟨hc.1, Nat.lt_of_lt_of_le hc.2.1 h.len, fun hs => ?_⟩
    rcases h.shp b hc.2.1 with h4 | ⟨h4, h5⟩
    · rw [h4] at hs; cases hs
    · rw [h5]; exact hc.2.2 (h4 ▸ hs)
  case eptr b i o =>
    refine ⟨hc.1, Nat.lt_of_lt_of_le hc.2.1 h.len, fun t n hs => ?_⟩
    rcases h.shp b hc.2.1 with h4 | ⟨h4, h5⟩
    · rw [h4] at hs; cases hs
    · rw [h5]; exact hc.2.2 t n (h4 ▸ hs)
  case sptr f t x o => exact SPtr.mono (h.Sf f) (hSf f) hc
  case fn f caps =>
    obtain ⟨vs, hv, hr⟩ := hc
    exact ⟨vs, hv, CapsR.mono h.S h.heap _ _ hr⟩
  case fnp f bs =>
    obtain ⟨vs, hv, hr⟩ := hc
    exact ⟨vs, hv, hr.mono h⟩

theorem LR.mono {C C' : Cx} (h : C.le C') : ∀ {l : List Cell} {vs : List Value}, LR C l vs → LR C' l vs
  | [], [], _ => trivial
  | _ :: _, _ :: _, hh => ⟨hh.1.mono h, LR.mono h hh.2⟩
  | [], _ :: _, hh => hh.elim
  | _ :: _, [], hh => hh.elim
theorem SVR.mono {C C' : Cx} (h : C.le C') {p : Bool × List Cell} {u : Value} (hh : SVR C p u) : SVR C' p u := by
  obtain ⟨b, l⟩ := p
  cases b
  · exact LR.mono h hh
  · obtain ⟨vs, hv, hl⟩ := hh
    exact ⟨vs, hv, hl.mono h⟩
theorem TL.mono {C C' : Cx} (h : C.le C') : ∀ {l : List (Bool × List Cell)} {vs : List Value}, TL C l vs → TL C' l vs
  | [], [], _ => trivial
  | _ :: _, _ :: _, hh => ⟨hh.1.mono h, TL.mono h hh.2⟩
  | [], _ :: _, hh => hh.elim
  | _ :: _, [], hh => hh.elim
theorem AVR.mono {C C' : Cx} (h : C.le C') {a : AV} {v : Value} (hh : AVR C a v) : AVR C' a v := by
  cases a with
  | c x => exact CellR.mono h hh
  | agg l => obtain ⟨vs, hv, hl⟩ := hh; exact ⟨vs, hv, hl.mono h⟩
  | tup l => obtain ⟨vs, hv, hl⟩ := hh; exact ⟨vs, hv, hl.mono h⟩

section
variable {C : Cx}
theorem LR.length : ∀ {l : List Cell} {vs : List Value}, LR C l vs → vs.length = l.length
  | [], [], _ => rfl
  | _ :: _, _ :: _, hh => by simp [LR.length hh.2]
  | [], _ :: _, hh => hh.elim
  | _ :: _, [], hh => hh.elim
theorem LR.drop : ∀ {l : List Cell} {vs : List Value} (n : Nat), LR C l vs → LR C (l.drop n) (vs.drop n)
  | _, _, 0, h => by simpa using h
  | [], [], n + 1, _ => by simp [LR]
  | _ :: _, _ :: _, n + 1, h => by simpa using LR.drop n h.2
  | [], _ :: _, _ + 1, h => h.elim
  | _ :: _, [], _ + 1, h => h.elim
theorem LR.take : ∀ {l : List Cell} {vs : List Value} (n : Nat), LR C l vs → LR C (l.take n) (vs.take n)
  | _, _, 0, h => by simp [LR]
  | [], [], n + 1, _ => by simp [LR]
  | _ :: _, _ :: _, n + 1, h => ⟨h.1, LR.take n h.2⟩
  | [], _ :: _, _ + 1, h => h.elim
  | _ :: _, [], _ + 1, h => h.elim
theorem LR.append : ∀ {l : List Cell} {vs : List Value} {l' : List Cell} {vs' : List Value}, LR C l vs → LR C l' vs' → LR C (l ++ l') (vs ++ vs')
  | [], [], _, _, _, h => h
  | _ :: _, _ :: _, _, _, h, h' => ⟨h.1, LR.append h.2 h'⟩
  | [], _ :: _, _, _, h, _ => h.elim
  | _ :: _, [], _, _, h, _ => h.elim
theorem LR.get : ∀ {l : List Cell} {vs : List Value} {i : Nat} {c : Cell}, LR C l vs → l[i]? = some c → ∃ v, vs[i]? = some v ∧ CellR C c v
  | _ :: _, v :: _, 0, c, h, hi => by
    simp only [List.getElem?_cons_zero, Option.some.injEq] at hi
    subst hi
    exact ⟨v, rfl, h.1⟩
  | _ :: _, _ :: _, i + 1, c, h, hi => by
    simp only [List.getElem?_cons_succ] at hi
    obtain ⟨v, hv, hc⟩ := LR.get h.2 hi
    exact ⟨v, by simpa using hv, hc⟩
  | [], _, _, _, _, hi => by simp at hi
  | _ :: _, [], _, _, h, _ => h.elim
theorem LR.map {f : Cell → Cell} (hf : ∀ c v, CellR C c v → CellR C (f c) v) : ∀ {l : List Cell} {vs : List Value}, LR C l vs → LR C (l.map f) vs
  | [], [], _ => trivial
  | _ :: _, _ :: _, hh => ⟨hf _ _ hh.1, LR.map hf hh.2⟩
  | [], _ :: _, hh => hh.elim
  | _ :: _, [], hh => hh.elim
end

/-- The block that a value of the call's own stands in. -/
def ownB : Value → Option Nat
  | .slice (some a) _ cap => if cap = 0 then none else some a.block
  | .pointer (some a) => some a.block
  | _ => none

/-- A slice of the call's own (or one that nothing can be stored in). -/
def OwnR (w : World) (e size : Nat) (v : Value) (n : Nat) (xs : List Value) : Prop :=
  w.ownsRow 0 e size v n xs ∨ (xs = [] ∧ n = 0 ∧ ∃ A, v = .slice A 0 0)

theorem OwnR.parts {w : World} {e size : Nat} {v : Value} {n : Nat} {xs : List Value} (h : OwnR w e size v n xs) :
    xs.length = n * size ∧ ((n = 0 ∧ xs = [] ∧ ∃ A, v = .slice A 0 0) ∨ ∃ g cap cur, v = .slice (some ⟨g, 0, none⟩) n cap ∧ w.heap[g]? = some (.cells cur e (0, 0)) ∧ n ≤ cap ∧ cap ≤ maxLen ∧ cur.size = cap * size ∧ cur.toList.take (n * size) = xs) := by
  rcases h with ⟨h1, h2⟩ | ⟨rfl, rfl, h3⟩
  · refine ⟨h1, ?_⟩
    rcases h2 with ⟨hv, hn⟩ | ⟨g, cap, cur, hv, _, hr⟩
    · subst hn
      exact .inl ⟨rfl, List.eq_nil_of_length_eq_zero (by simpa using h1), _, hv⟩
    · exact .inr ⟨g, cap, cur, hv, hr⟩
  · exact ⟨by simp, .inl ⟨rfl, rfl, h3⟩⟩

def BlkR (C : Cx) (b : Nat) : Blk → Prop
  | .dead => True
  | .cells ty l => ∃ g cs, C.ρ b = .pointer (some ⟨g, 0, none⟩) ∧ C.w.heap[g]? = some (.cells cs ty (0, 0)) ∧ LR C l cs.toList
  | .arr t ety l f => ∃ xs, OwnR C.w ety t.width (C.ρ b) l.length xs ∧ (f = true → ∀ g, ownB (C.ρ b) = some g → C.B ≤ g) ∧ ∀ i x, l[i]? = some x → Rd C.w (C.Sf f) t x ((xs.drop (i * t.width)).take t.width)

structure HeapR (C : Cx) : Prop where
  base : C.B ≤ C.w.heap.size
  st : ∀ b, C.S b → b < C.w.heap.size
  blk : ∀ b x, C.H[b]? = some x → BlkR C b x
  own : ∀ b g, shp C.H b ≠ none → ownB (C.ρ b) = some g → ¬ C.S g ∧ (C.B ≤ g ∨ C.X g)
  inj : ∀ b b' g, shp C.H b ≠ none → shp C.H b' ≠ none → ownB (C.ρ b) = some g → ownB (C.ρ b') = some g → b = b'

/-- The temporaries. -/
structure TR (C : Cx) (nt : Nat) (tmps : List (Nat × AV)) (a : Act) : Prop where
  size : a.tmps.size = nt
  defers : a.defers = []
  at_ : ∀ t, AVR C (look tmps t) (a.tmps.getD t undef)

theorem TR.mono {C C' : Cx} (h : C.le C') {nt : Nat} {tmps : List (Nat × AV)} {a : Act} (hh : TR C nt tmps a) : TR C' nt tmps a :=
  ⟨hh.size, hh.defers, fun t => (hh.at_ t).mono h⟩

theorem TR.put {C : Cx} {nt : Nat} {s : St} {a : Act} (hh : TR C nt s.tmps a) {d : Option Nat} (hd : ∀ t, d = some t → t < nt) {av : AV} {v : Value} (hv : AVR C av v) : TR C nt (s.put d av).tmps (a.put d v) := by
  cases d with
  | none => exact hh
  | some d =>
    refine ⟨by simp [Act.put, hh.size], hh.defers, fun t => ?_⟩
    simp only [St.put, look, Act.put]
    by_cases e : d = t
    · subst e
      have hlt : d < a.tmps.size := by rw [hh.size]; exact hd d rfl
      simp [Array.getD_eq_getD_getElem?, hlt]
      exact hv
    · have hb : Nat.beq d t = false := by
        cases hq : Nat.beq d t
        · rfl
        · exact absurd (Nat.eq_of_beq_eq_true hq) e
      have h1 := hh.at_ t
      rw [hb]
      simp only [cond_false]
      rw [Array.getD_eq_getD_getElem?] at h1 ⊢
      rw [Array.getElem?_setIfInBounds_ne e]
      exact h1

theorem put_heap (s : St) (d : Option Nat) (v : AV) : (s.put d v).heap = s.heap := by cases d <;> rfl

theorem constCell_r (C : Cx) (v : Value) : CellR C (constCell v) v := by
  unfold constCell
  split <;> simp [CellR]

theorem constCells_r (C : Cx) : ∀ l : List Value, LR C (l.map constCell) l
  | [] => trivial
  | v :: l => ⟨constCell_r C v, constCells_r C l⟩

theorem ofConst_r (C : Cx) (v : Value) : AVR C (ofConst v) v := by
  unfold ofConst
  split
  · rename_i cs
    exact ⟨cs, rfl, constCells_r C _⟩
  · trivial
  · exact constCell_r C v

theorem ev_r {C : Cx} {nt : Nat} {s : St} {a : Act} (h : TR C nt s.tmps a) (x : Operand) : AVR C (s.ev x) (a.eval x) := by
  cases x with
  | tmp t => exact h.at_ t
  | const v => exact ofConst_r C v
  | global g => trivial
  | func f => exact ⟨#[], rfl, trivial⟩

def knownC : Cell → Bool
  | .un => false
  | .undef => false
  | _ => true
theorem known_cons {c : Cell} {l : List Cell} (h : known (c :: l) = true) : knownC c = true ∧ known l = true := by
  cases c <;> simp_all [known, knownC]
theorem CellR.one {C : Cx} {c : Cell} {v : Value} (hk : knownC c = true) (h : CellR C c v) : v.oneCell' = true := by
  cases c <;> simp only [CellR] at h <;> first | (subst h; rfl) | (obtain ⟨_, rfl⟩ := h; rfl) | exact h.1 | skip
  case sl f t l => obtain ⟨A, cap, hv, _⟩ := h; cases hv; rfl
  case sptr f t x o => obtain ⟨_, _, _, _, _, _, _, _, rfl⟩ := h; rfl
  case fn f l => obtain ⟨_, rfl, _⟩ := h; rfl
  case fnp f l => obtain ⟨_, rfl, _⟩ := h; rfl
  all_goals simp [knownC] at hk
theorem LR.one {C : Cx} : ∀ {l : List Cell} {vs : List Value}, known l = true → LR C l vs → ∀ v ∈ vs, v.oneCell' = true
  | [], [], _, _, v, hv => by cases hv
  | c :: l, u :: vs, hk, h, v, hv => by
    obtain ⟨h1, h2⟩ := known_cons hk
    rcases List.mem_cons.1 hv with rfl | hv
    · exact CellR.one h1 h.1
    · exact LR.one h2 h.2 v hv
  | [], _ :: _, _, h, _, _ => h.elim
  | _ :: _, [], _, h, _, _ => h.elim
theorem cells_of_one {v : Value} (h : v.oneCell' = true) : v.cells = #[v] := by
  cases v <;> first | rfl | simp [Value.oneCell'] at h

theorem AVR.cells {C : Cx} {a : AV} {v : Value} (h : AVR C a v) (hk : known a.cells = true) : LR C a.cells v.cells.toList := by
  cases a with
  | c x =>
    have h1 : CellR C x v := h
    rw [cells_of_one (CellR.one (known_cons hk).1 h1)]
    exact ⟨h1, trivial⟩
  | agg l => obtain ⟨vs, rfl, hl⟩ := h; exact hl
  | tup l => cases hk
end Go.Proofs.YtgagpmiooeoodaaGreat.A
